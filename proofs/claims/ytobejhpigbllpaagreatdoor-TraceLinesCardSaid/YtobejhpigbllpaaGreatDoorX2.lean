/-
  Regions: in the order of the text; in any order that the tape draws.
  A region whose order is drawn: one walk, in the order of the text, serves every order.
  The machine's code and the model's; what it runs is what the model runs.
  What a call comes to in the machine, it comes to in the model.
  A call of the machine's is the model's.
  Functions that the machine takes as they are said: those that the model knows as entries of its own.
  Entries of the model's that the machine takes as they are said: a byte's place in bytes, how often it is there.
  What operations come to, on typed values: calls, equality, arrays.
  What operations come to, on typed values: pointers that are only read through.
  A text's runes, one behind another one.
  Regions whose order is drawn, where each operation that reads memory has one place.
  strings.Builder: what its methods come to, on a builder in memory of its own.
  strings.Builder: a builder in memory of its own as one thing, its bytes.
  Values that are kept: functions, structures with functions; calls whose code is walked in place.
  Calls whose code is walked in place.
  What operations come to, on kept values: rows of them, variables with parts, loops that are unrolled.
  Tests that wait for others, by cases; slices of arrays; literals of arrays; tables.
  Tests that wait inside regions whose order is drawn; tables; maps.
  Ways that meet again, each walked once: what comes behind them is told apart from them.
  strings.Builder's grow as a function that the machine takes as it is said.
  strings.Builder: room from the start.
  Variables in parts; what is cleared of a row.
  Slices of one's own cells that are handed on as they are; a slice as an array; tests that write.
  strconv.ParseUint(s, 10, 64) as a function that the machine takes as it is said.
  Functions that the machine takes as they are said, as typed ones.
-/
import Derived.Still
import Derived.Tactics
import Derived.LoopN
import Derived.Scope
import Derived.Control
import Derived.Laws.Sem
import GoSem.Extern.Table
import Derived.Lib.Bytealg
import Derived.Lib.MakeNoZero
import Derived.Below
import Derived.Lib.ParseIntBCases
import Derived.Lib.Index
import Derived.Test.YtobejhpigbllpaaGreatDoorX1
namespace Go.Proofs.YtobejhpigbllpaaGreatDoor.Am
def Vg(rs:Array Oper):Option (Nat×Bool)→Option (Nat×Bool)→Bool
 |none,none=>true
 |some (t,w),some (j,w')=>w==w'&&(rs[j]?).bind (·.dst)==some t
 |_,_=>false
def Wf(T:Im→Oper→Bool)(nt:Nat)(rs:Array Oper)(ao:Bl)(o:Oper):Bool:=
 decide (ao.d=o.dst)&&(match o.dst with|some t=>decide (t<nt)|none=>true)&&Vg rs ao.g o.guard&&T ao.o o
def GF(T:Im→Oper→Bool)(nt:Nat)(rs:Array Oper):List Bl→List Oper→Bool
 |[],[]=>true
 |x::l,o::r=>Wf T nt rs x o&&GF T nt rs l r
 |_,_=>false
section
variable{T:Im→Oper→Bool}{P:Program}{tb:Dg}{cl:Nat→List AV→Ax→Lb}{nt:Nat}{rs:Array Oper}
theorem Vs{C:D4}{f:Fr}{a:Act}(F:By C f a nt){g:Option (Nat×Bool)}{o:Oper}(h:Vg rs g o.guard=true){b:Bool}(hw:wanted f g=some b):
  Region.wanted o (yielded rs a.tmps)=b:=by
 unfold Vg at h
 split at h
 ·rename_i hg
  simp only[wanted,Option.some.injEq]at hw
  subst hw
  simp[Region.wanted,hg]
 ·rename_i t w j w' hg
  simp only[Bool.and_eq_true,beq_iff_eq]at h
  obtain⟨rfl,hj⟩:=h
  simp only[wanted]at hw
  split at hw
  ·rename_i x hx
   simp only[Option.some.injEq]at hw
   subst hw
   have r:=F.rep t
   rw[hx]at r
   have r':a.tmps.getD t undef= .bool x:=r
   have hs:a.tmps[t]? =some (.bool x):=by
    rw[Array.getD_eq_getD_getElem?]at r'
    cases ht:a.tmps[t]? with
    |none=>rw[ht]at r';simp[undef]at r'
    |some v=>rw[ht]at r';simpa using r'
   simp only[Region.wanted,hg,yielded,hj,Option.bind_some,hs]
   cases x<;>cases w<;>rfl
  ·rename_i hx
   simp only[Option.some.injEq]at hw
   subst hw
   have r:=F.rep t
   rw[hx]at r
   obtain⟨vs,r',hv⟩:=r
   have hv':vs=[]:=hv
   subst hv'
   rw[Array.getD_eq_getD_getElem?]at r'
   simp only[Region.wanted,hg,yielded,hj,Option.bind_some]
   cases ht:a.tmps[t]? with
   |none=>rfl
   |some v=>
    rw[ht]at r'
    simp only[Option.getD_some]at r'
    subst r'
    rfl
  ·cases hw
 ·cases h
theorem TP{ao:Bl}{o:Oper}(h:Wf T nt rs ao o=true):ao.d=o.dst∧(∀t,o.dst=some t→t<nt)∧Vg rs ao.g o.guard=true∧T ao.o o=true:=by
 simp only[Wf,Bool.and_eq_true,decide_eq_true_eq]at h
 obtain⟨⟨⟨h1,h2⟩,h3⟩,h4⟩:=h
 refine⟨h1,fun t ht=> ?_,h3,h4⟩
 rw[ht]at h2
 simpa using h2
theorem pP(hT: ∀ao o,T ao o=true→D3 P tb ao o)(hcl:Fs P tb fun g args h=>B6 tb cl h g args){Q:Exit→Act→World→Prop}:
  ∀(l:List Bl) (os:List Oper),GF T nt rs l os=true→ ∀{C:D4} {f:Fr} {a:Act},Inv tb C→By C f a nt→ ∀{f':Fr} {h':Ax},ops tb cl l f C.H=some (f',h')→
   (∀(D:D4) (a':Act),KM C D→Inv tb D→D.H=h'→By D f' a' nt→Q .normal a' D.w)→wpList P rs Q os a C.w:=by
 intro l
 induction l with
 |nil=>
  intro os h C f a I F f' h' e k
  cases os with
  |cons o os=>simp[GF]at h
  |nil=>
   simp only[ops,Option.some.injEq,Prod.mk.injEq]at e
   obtain⟨rfl,rfl⟩:=e
   exact k C a (KM.refl C) I rfl F
 |cons ao l ih=>
  intro os h C f a I F f' h' e k
  cases os with
  |nil=>simp[GF]at h
  |cons o os=>
   simp only[GF,Bool.and_eq_true]at h
   obtain⟨h1,h2⟩:=h
   obtain⟨g1,g2,g3,g4⟩:=TP h1
   simp only[ops]at e
   obtain⟨b,hb,e⟩:=Option.bind_eq_some_iff.1 e
   have hw:=Vs F g3 hb
   simp only[wpList,hw]
   cases b with
   |true=>
    simp only[if_true]at e ⊢
    obtain⟨p,hp,e⟩:=Option.bind_eq_some_iff.1 e
    refine .inl (TF (hT _ _ g4 hcl I F hp) fun v D X ID hH hr=> ?_)
    rw[←g1]
    refine ih os h2 ID (F.put X (fun t ht=>g2 t (g1▸ht)) hr) (by rw[hH];exact e) fun D' a' X'=>k D' a' (X.trans X')
   |false=>
    simp only[Bool.false_eq_true,if_false]at e ⊢
    rw[←g1]
    exact ih os h2 I (F.put (KM.refl C) (fun t ht=>g2 t (g1▸ht)) (x:= .tup []) ⟨[],rfl,rfl⟩) e k
theorem pB(hT: ∀ao o,T ao o=true→D3 P tb ao o)(hcl:Fs P tb fun g args h=>B6 tb cl h g args){Q:Exit→Act→World→Prop}{l:List Bl}{id:Nat}
  (h:GF T nt rs l rs.toList=true) {C:D4} {f:Fr} {a:Act} (I:Inv tb C) (F:By C f a nt) {f':Fr} {h':Ax} (e:ops tb cl l f C.H=some (f',h'))
  (k: ∀(D:D4) (a':Act),KM C D→Inv tb D→D.H=h'→By D f' a' nt→Q .normal a' D.w):(Code.region id rs false).wp P Q a C.w:=
 wp_region_list (pP hT hcl l _ h I F e k)
def GC:AO→List Nat
 | .t n=>[n]
 |_=>[]
def ooT:Option AO→List Nat
 |some x=>GC x
 |none=>[]
def opT:Im→List Nat
 | .mv x=>GC x
 | .pick c a b=>GC c++GC a++GC b
 | .alloc _ _=>[]
 | .box _ _ x=>GC x
 | .bld _ ps=>ps.flatMap fun p=>GC p.2.2
 | .bls _ _ _ ps=>ps.flatMap fun p=>GC p.2
 | .bll _ _ ps=>ps.flatMap fun p=>GC p.2
 | .ld _ _ a=>GC a
 | .st _ a x=>GC a++GC x
 | .nilc x=>GC x
 | .bin _ x y=>GC x++GC y
 | .eq _ _ x y=>GC x++GC y
 | .un _ x=>GC x
 | .cvi _ x=>GC x
 | .cvid x=>GC x
 | .cvb _ x=>GC x
 | .cvr x=>GC x
 | .cvs x=>GC x
 | .cvc x=>GC x
 | .mkf _ a b=>a.flatMap GC++b.flatMap GC
 | .mkm=>[]
 | .mks _ _ _ _ l c=>GC l++GC c
 | .sls x lo hi=>GC x++ooT lo++ooT hi
 | .sll _ x lo hi=>GC x++ooT lo++ooT hi
 | .sla _ _ x lo hi=>GC x++ooT lo++ooT hi
 | .fa _ x=>GC x
 | .fld _ _ _ x=>GC x
 | .ias _ x i=>GC x++GC i
 | .iaa _ _ x i=>GC x++GC i
 | .ixa _ _ _ x i=>GC x++GC i
 | .ixs x i=>GC x++GC i
 | .lkp _ _ _ m k=>GC m++GC k
 | .mup _ m k v=>GC m++GC k++GC v
 | .rng x=>GC x
 | .nxt x=>GC x
 | .ext x _=>GC x
 | .s2a _ _ x=>GC x
 | .mkif _ x=>GC x
 | .call _ xs=>xs.flatMap GC
 | .callv x xs=>GC x++xs.flatMap GC
 | .len x=>GC x
 | .lens x=>GC x
 | .app _ _ _ s x=>GC s++GC x
 | .cpy _ d s=>GC d++GC s
 | .mnx _ x y=>GC x++GC y
 | .clr _ x=>GC x
 | .del _ m k=>GC m++GC k
 | .lenm m=>GC m
 | .cvp x=>GC x
 | .cvu _ _ x=>GC x
 | .eqp _ x y=>GC x++GC y
 | .isni _ x=>GC x
 | .capn x=>GC x
 | .usd x=>GC x
 | .ust _ x n=>GC x++GC n
 | .die=>[]
def Alike(_:Dg)(f f':Fr)(ts:List Nat):Prop:= ∀t∈ts,get f t=get f' t
theorem Alike.l{tb:Dg}{f f':Fr}{x y:List Nat}(h:Alike tb f f' (x++y)):Alike tb f f' x:=fun t ht=>h t (List.mem_append_left _ ht)
theorem Alike.r{tb:Dg}{f f':Fr}{x y:List Nat}(h:Alike tb f f' (x++y)):Alike tb f f' y:=fun t ht=>h t (List.mem_append_right _ ht)
theorem Alike.e{f f':Fr}{x:AO}(h:Alike tb f f' (GC x)):eval tb f x=eval tb f' x:=by
 cases x with
 |t n=>exact h n (by simp[GC])
 |_=>rfl
theorem Alike.es{f f':Fr}: ∀{xs:List AO},Alike tb f f' (xs.flatMap GC)→xs.map (eval tb f)=xs.map (eval tb f')
 |[],_=>rfl
 |x::xs,h=>by
  rw[List.flatMap_cons]at h
  rw[List.map_cons,List.map_cons,h.l.e,Alike.es h.r]
theorem Alike.b{f f':Fr}{lo hi:Option AO}{n:Nat}(h:Alike tb f f' (ooT lo))(h':Alike tb f f' (ooT hi)):HR (eval tb f) n lo hi=HR (eval tb f') n lo hi:=by
 cases lo<;>cases hi
 ·rfl
 ·have e':=Alike.e h'
  simp only[HR,e']
 ·have e:=Alike.e h
  simp only[HR,e]
 ·have e:=Alike.e h
  have e':=Alike.e h'
  simp only[HR,e,e']
theorem Alike.fl{f f':Fr}: ∀{ps:List (Nat×Nat×AO)} {z:List AV},Alike tb f f' (ps.flatMap fun p=>GC p.2.2)→LN z (eval tb f) ps=LN z (eval tb f') ps
 |[],_,_=>rfl
 |(off,n,x)::ps,z,h=>by
  rw[List.flatMap_cons]at h
  simp only[LN]
  rw[h.l.e]
  split
  ·exact Alike.fl h.r
  ·rfl
theorem Alike.fe{f f':Fr}{sz:Nat}: ∀{ps:List (Nat×AO)} {z:List (List AV)},Alike tb f f' (ps.flatMap fun p=>GC p.2)→KG z sz (eval tb f) ps=KG z sz (eval tb f') ps
 |[],_,_=>rfl
 |(i,x)::ps,z,h=>by
  rw[List.flatMap_cons]at h
  simp only[KG]
  rw[h.l.e]
  split
  ·exact Alike.fe h.r
  ·rfl
theorem Zk{f f':Fr}{h:Ax}: ∀{o:Im},Alike tb f f' (opT o)→Bz tb cl (eval tb f) h o=Bz tb cl (eval tb f') h o:=by
 intro o a
 cases o<;>simp only[opT]at a<;>simp only[Bz]
 case bld=>rw[a.fl]
 case bls=>rw[a.fe]
 case bll=>rw[a.fe]
 case mkf=>rw[a.l.es,a.r.es]
 case sls=>rw[a.l.l.e];split<;>first|rfl|rw[Alike.b a.l.r a.r]
 case sll=>rw[a.l.l.e];congr;funext n;rw[Alike.b a.l.r a.r]
 case sla=>rw[a.l.l.e,Alike.b a.l.r a.r]
 case call=>rw[a.es]
 case callv=>rw[a.l.e,a.r.es]
 case pick=>rw[a.l.l.e,a.l.r.e,a.r.e]
 case mup=>rw[a.l.l.e,a.l.r.e,a.r.e]
 all_goals first
  |rw[a.l.e,a.r.e]
  |rw[a.e]
def gT:Option (Nat×Bool)→List Nat
 |some (t,_)=>[t]
 |none=>[]
theorem Zw{f f':Fr}{g:Option (Nat×Bool)}(a:Alike tb f f' (gT g)):wanted f g=wanted f' g:=by
 cases g with
 |none=>rfl
 |some p=>
  obtain⟨t,w⟩:=p
  simp only[wanted]
  rw[a t (by simp[gT])]
def Ge:List (Option (Nat×Nat))→Nat→Nat
 |_,0=>0
 |[],_+1=>0
 |none::w,i+1=>Ge w i+1
 |some _::w,i+1=>Ge w i
def Stepped(tb:Dg)(cl:Nat→List AV→Ax→Lb)(hs:List Ax)(k:Nat)(ao:Bl)(w:Option (Nat×Nat))(f:Fr)(v:AV):Prop:=
 ∃t,wanted f ao.g=some t∧(t=false→v= .tup []∧(w=none→hs[k]? =hs[k+1]?))∧
  (t=true→(w=none→ ∃h u,hs[k]? =some h∧Bz tb cl (eval tb f) h ao.o=some (v,u)∧hs[k+1]? =some (u.getD h))∧
   ∀lo hi,w=some (lo,hi)→ ∀j,lo≤j→j≤hi→ ∃h u,hs[j]? =some h∧Bz tb cl (eval tb f) h ao.o=some (v,u)∧u.getD h=h)
theorem pQ{hs:List Ax}: ∀(l:List Bl) (ws:List (Option (Nat×Nat))) (k:Nat) (f f':Fr),J6 tb cl hs l ws k f=some f'→
  ∃(fr:Nat→Fr) (vl:Nat→AV),fr 0=f∧fr l.length=f'∧k+Ge ws l.length+1=hs.length∧
   ∀i ao,l[i]? =some ao→fr (i+1)=put (fr i) ao.d (vl i)∧ ∃w,ws[i]? =some w∧Stepped tb cl hs (k+Ge ws i) ao w (fr i) (vl i):=by
 intro l
 induction l with
 |nil=>
  intro ws k f f' e
  simp only[J6]at e
  split at e
  ·rename_i hk
   obtain rfl:=Option.some.inj e
   exact⟨fun _=>f,fun _=> .junk,rfl,rfl,by simpa [Ge]using hk,fun i ao h=>(by simp at h)⟩
  ·cases e
 |cons ao l ih=>
  intro ws k f f' e
  simp only[J6]at e
  obtain⟨t,ht,e⟩:=Option.bind_eq_some_iff.1 e
  have glue: ∀(w:Option (Nat×Nat)) (ws':List (Option (Nat×Nat))) (v:AV) (k':Nat),ws=w::ws'→k'=k+(match w with|none=>1|some _=>0)→Stepped tb cl hs k ao w f v→
    J6 tb cl hs l ws' k' (put f ao.d v)=some f'→ ∃(fr:Nat→Fr) (vl:Nat→AV),fr 0=f∧fr (ao::l).length=f'∧k+Ge ws (ao::l).length+1=hs.length∧
     ∀i x,(ao::l)[i]? =some x→fr (i+1)=put (fr i) x.d (vl i)∧ ∃w,ws[i]? =some w∧Stepped tb cl hs (k+Ge ws i) x w (fr i) (vl i):=by
   intro w ws' v k' hws hk hst h
   subst hws
   obtain⟨fr,vl,h0,h1,h2,h3⟩:=ih ws' k' _ f' h
   have hrank: ∀i,k+Ge (w::ws') (i+1)=k'+Ge ws' i:=by
    intro i
    subst hk
    cases w<;>simp only[Ge]<;>omega
   refine⟨fun i=>match i with|0=>f|i+1=>fr i,fun i=>match i with|0=>v|i+1=>vl i,rfl,h1,by rw[List.length_cons,hrank];exact h2,?_⟩
   intro i x hx
   cases i with
   |zero=>
    simp only[List.getElem?_cons_zero,Option.some.injEq]at hx
    subst hx
    exact⟨h0,w,rfl,hst⟩
   |succ i=>
    obtain⟨g1,w',g2,g3⟩:=h3 i x (by simpa using hx)
    exact⟨g1,w',by simpa using g2,by rw[hrank];exact g3⟩
  cases t with
  |true=>
   simp only[if_true]at e
   obtain⟨h,hh,e⟩:=Option.bind_eq_some_iff.1 e
   obtain⟨p,hp,e⟩:=Option.bind_eq_some_iff.1 e
   cases ws with
   |nil=>simp at e
   |cons w0 w=>
    cases w0 with
    |none=>
     simp only[]at e
     split at e
     ·rename_i hn
      exact glue none w p.1 (k+1) rfl rfl ⟨true,ht,fun e=>(by cases e),fun _=>⟨fun _=>⟨h,p.2,hh,hp,hn.symm⟩,fun lo hi e=>(by cases e)⟩⟩ e
     ·cases e
    |some q=>
     obtain⟨lo,hi⟩:=q
     simp only[]at e
     split at e
     ·rename_i hn
      refine glue (some (lo,hi)) w p.1 k rfl rfl ⟨true,ht,fun e=>(by cases e),fun _=>⟨fun e=>(by cases e),?_⟩⟩ e
      intro lo' hi' e' j hj hj'
      simp only[Option.some.injEq,Prod.mk.injEq]at e'
      obtain⟨rfl,rfl⟩:=e'
      rw[List.all_eq_true]at hn
      have:=hn j (List.mem_range'_1.2 ⟨hj,by omega⟩)
      simp only[decide_eq_true_eq]at this
      obtain⟨u,hu,hu'⟩:=this
      obtain⟨h',hh',hu⟩:=Option.bind_eq_some_iff.1 hu
      refine⟨h',u,hh',hu,?_⟩
      rw[hh']at hu'
      simpa using hu'
     ·cases e
  |false=>
   simp only[Bool.false_eq_true,if_false]at e
   cases ws with
   |nil=>simp at e
   |cons w0 w=>
    cases w0 with
    |none=>
     simp only[]at e
     split at e
     ·rename_i hn
      exact glue none w (.tup []) (k+1) rfl rfl ⟨false,ht,fun _=>⟨rfl,fun _=>hn⟩,fun e=>(by cases e)⟩ e
     ·cases e
    |some q=>
     exact glue (some q) w (.tup []) k rfl rfl ⟨false,ht,fun _=>⟨rfl,fun e=>(by cases e)⟩,fun e=>(by cases e)⟩ e
end
end Go.Proofs.YtobejhpigbllpaaGreatDoor.Am
namespace Go.Proofs.YtobejhpigbllpaaGreatDoor.Am
def Qp(rs:Array Oper)(i:Nat):List Nat:=
 match rs[i]? with
 |some o=>(o.after.toList.filter (Region.binds .any)).map (·.on)
 |none=>[]
def Sz(rs:Array Oper):Nat→Nat→Nat→Bool
 |0,_,_=>false
 |n+1,j,i=>(Qp rs i).any (fun e=>Nat.beq e j)||(Qp rs i).any fun e=>Sz rs n j e
theorem JX{rs:Array Oper}{L:Nat→Prop}(hd: ∀i,L i→ ∀e∈Qp rs i,L e): ∀{n j i:Nat},Sz rs n j i=true→(∀e∈Qp rs i,L e)→L j
 |0,_,_,h,_=>by simp[Sz]at h
 |n+1,j,i,h,hi=>by
  simp only[Sz,List.any_eq_true,Bool.or_eq_true,Nat.beq_eq]at h
  rcases h with ⟨e,he,rfl⟩|⟨e,he,h⟩
  ·exact hi _ he
  ·exact JX hd h (hd e (hi e he))
def looks(ao:Bl):List Nat:=gT ao.g++opT ao.o
def SU(rs:Array Oper)(l:List Bl)(ws:List (Option (Nat×Nat)))(i j:Nat):Bool:=
 match l[i]?,l[j]? with
 |some x,some y=>
  (match x.d with|some t=>decide (y.d≠some t)|none=>true)&&
  (match y.d with|some t=> !(looks x).contains t||(if j<i then Sz rs rs.size j i else Sz rs rs.size i j)|none=>true)&&
  (match ws[i]?,ws[j]? with
   |some none,some none=> !decide (j<i)||Sz rs rs.size j i
   |some (some (lo,hi)),some none=>(!decide (Ge ws j<lo)||Sz rs rs.size j i)&&(!decide (hi≤Ge ws j)||Sz rs rs.size i j)
   |_,_=>true)
 |_,_=>true
def okD(T:Im→Oper→Bool)(nt:Nat)(rs:Array Oper)(l:List Bl)(ws:List (Option (Nat×Nat))):Bool:=
 GF T nt rs l rs.toList&&(List.range rs.size).all fun i=>
  (Qp rs i).all (fun e=>decide (e<i))&&
  (match ws[i]? with|some (some (lo,_))=>decide (lo≤Ge ws rs.size)|_=>true)&&
  (List.range rs.size).all fun j=>i==j||SU rs l ws i j
theorem Vi(f:Fr)(d:Option Nat)(v:AV)(t:Nat):get (put f d v) t=if d=some t then v else get f t:=by
 cases d with
 |none=>simp[put]
 |some u=>simp[put,get]
theorem OW{T:Im→Oper→Bool}{nt:Nat}{rs:Array Oper}: ∀{l:List Bl} {os:List Oper},GF T nt rs l os=true→l.length=os.length
 |[],[],_=>rfl
 |[],_::_,h=>by simp[GF]at h
 |_::_,[],h=>by simp[GF]at h
 |_::_,_::_,h=>by
  simp only[GF,Bool.and_eq_true]at h
  simp[OW h.2]
theorem TO{T:Im→Oper→Bool}{nt:Nat}{rs:Array Oper}: ∀{l:List Bl} {os:List Oper} {i:Nat} {x:Bl} {o:Oper},GF T nt rs l os=true→l[i]? =some x→os[i]? =some o→Wf T nt rs x o=true
 |[],_,_,_,_,_,h,_=>by simp at h
 |_::_,[],_,_,_,_,_,h=>by simp at h
 |_::_,_::_,0,_,_,h,h1,h2=>by
  simp only[GF,Bool.and_eq_true]at h
  simp only[List.getElem?_cons_zero,Option.some.injEq]at h1 h2
  subst h1;subst h2
  exact h.1
 |_::_,_::_,i+1,_,_,h,h1,h2=>by
  simp only[GF,Bool.and_eq_true]at h
  exact TO h.2 (i:=i) (by simpa using h1) (by simpa using h2)
theorem Ve: ∀{ws:List (Option (Nat×Nat))} {i j:Nat},ws[i]? =some none→i<j→Ge ws i<Ge ws j
 |[],_,_,h,_=>by simp at h
 |_,_,0,_,h=>by omega
 |none::ws,0,j+1,_,_=>by simp only[Ge];omega
 |some _::ws,0,j+1,h,_=>by simp at h
 |none::ws,i+1,j+1,h,h'=>by
  have:=Ve (ws:=ws) (i:=i) (j:=j) (by simpa using h) (by omega)
  simp only[Ge];omega
 |some _::ws,i+1,j+1,h,h'=>by
  have:=Ve (ws:=ws) (i:=i) (j:=j) (by simpa using h) (by omega)
  simp only[Ge];omega
theorem N5: ∀{ws:List (Option (Nat×Nat))} {n k:Nat},k<Ge ws n→ ∃j,j<n∧ws[j]? =some none∧Ge ws j=k
 |_,0,_,h=>by simp[Ge]at h
 |[],_+1,_,h=>by simp[Ge]at h
 |none::ws,n+1,0,_=>⟨0,by omega,rfl,rfl⟩
 |none::ws,n+1,k+1,h=>by
  obtain⟨j,h1,h2,h3⟩:=N5 (ws:=ws) (n:=n) (k:=k) (by simp only[Ge]at h;omega)
  exact⟨j+1,by omega,by simpa using h2,by simp only[Ge,h3]⟩
 |some _::ws,n+1,k,h=>by
  obtain⟨j,h1,h2,h3⟩:=N5 (ws:=ws) (n:=n) (k:=k) (by simpa [Ge]using h)
  exact⟨j+1,by omega,by simpa using h2,by simp only[Ge,h3]⟩
section
variable{T:Im→Oper→Bool}{P:Program}{tb:Dg}{cl:Nat→List AV→Ax→Lb}{nt:Nat}{rs:Array Oper}{l:List Bl}{ws:List (Option (Nat×Nat))}{hs:List Ax}{fr:Nat→Fr}{vl:Nat→AV}
def On(listed:Array Bool)(i:Nat):Prop:=listed.getD i false=true
structure St(rs:Array Oper)(l:List Bl)(ws:List (Option (Nat×Nat)))(hs:List Ax)(fr:Nat→Fr)(vl:Nat→AV)(listed:Array Bool)(H:Ax)(f:Fr):Prop where
 size:listed.size=rs.size
 down: ∀i,On listed i→ ∀e∈Qp rs i,On listed e
 heap: ∃k,hs[k]? =some H∧ ∀j,j<rs.size→ws[j]? =some none→(On listed j↔Ge ws j<k)
 vals: ∀i ai t,On listed i→l[i]? =some ai→ai.d=some t→get f t=vl i
 rest: ∀t,(∀i ai,On listed i→l[i]? =some ai→ai.d≠some t)→get f t=get (fr 0) t
theorem ST{listed:Array Bool}{i j:Nat}(hi:i<listed.size):On (listed.setIfInBounds i true) j↔j=i∨On listed j:=by
 unfold On
 by_cases h:i=j
 ·subst h;simp[Array.getD_eq_getD_getElem?,hi]
 ·rw[getD_set_ne false h]
  exact⟨.inr,fun e=>e.resolve_left (Ne.symm h)⟩
theorem Yw{i:Nat}{o:Oper}(h:rs[i]? =some o){e:Nat}:e∈Qp rs i↔ ∃x∈o.after,Region.binds .any x=true∧x.on=e:=by
 simp only[Qp,h,List.mem_map,List.mem_filter,Array.mem_toList_iff]
 exact⟨fun⟨x,⟨h1,h2⟩,h3⟩=>⟨x,h1,h2,h3⟩,fun⟨x,h1,h2,h3⟩=>⟨x,⟨h1,h2⟩,h3⟩⟩
theorem SN{listed:Array Bool}(hsz:listed.size=rs.size){i:Nat}:i∈Region.ready .any rs listed↔i<rs.size∧ ¬On listed i∧ ∀e∈Qp rs i,On listed e:=by
 rw[mem_ready]
 constructor
 ·rintro⟨h1,o,ho,h2⟩
  have hi:i<rs.size:=(Array.getElem?_eq_some_iff.1 ho).1
  refine⟨hi,fun h=> ?_,fun e he=> ?_⟩
  ·unfold On at h
   simp[Array.getD_eq_getD_getElem?,show i<listed.size by omega]at h h1
   rw[h1]at h;cases h
  ·obtain⟨x,hx,hb,rfl⟩:=(Yw ho).1 he
   exact h2 x hx hb
 ·rintro⟨hi,h1,h2⟩
  obtain⟨o,ho⟩: ∃o,rs[i]? =some o:=⟨rs[i],Array.getElem?_eq_getElem hi⟩
  refine⟨?_,o,ho,fun x hx hb=>h2 _ ((Yw ho).2 ⟨x,hx,hb,rfl⟩)⟩
  unfold On at h1
  simp[Array.getD_eq_getD_getElem?,show i<listed.size by omega]at h1 ⊢
  exact h1
theorem uB(h:okD T nt rs l ws=true):l.length=rs.size∧(∀(i:Nat) (x:Bl) (o:Oper),l[i]? =some x→rs[i]? =some o→Wf T nt rs x o=true)∧(∀i,i<rs.size→ ∀e∈Qp rs i,e<i)∧
  (∀(i j:Nat) (x y:Bl) (t:Nat),l[i]? =some x→l[j]? =some y→i≠j→x.d=some t→y.d≠some t)∧
  (∀(i j:Nat) (x y:Bl) (t:Nat),l[i]? =some x→l[j]? =some y→y.d=some t→t∈looks x→(j<i∧Sz rs rs.size j i=true)∨(i<j∧Sz rs rs.size i j=true)∨i=j)∧
  (∀i j,i<rs.size→j<rs.size→i≠j→ws[i]? =some none→ws[j]? =some none→j<i→Sz rs rs.size j i=true)∧
  (∀i j lo hi,i<rs.size→j<rs.size→ws[i]? =some (some (lo,hi))→ws[j]? =some none→(Ge ws j<lo→Sz rs rs.size j i=true)∧(hi≤Ge ws j→Sz rs rs.size i j=true))∧
  (∀i lo hi,i<rs.size→ws[i]? =some (some (lo,hi))→lo≤Ge ws rs.size):=by
 simp only[okD,Bool.and_eq_true,List.all_eq_true,List.mem_range,decide_eq_true_eq,Bool.or_eq_true,beq_iff_eq]at h
 obtain⟨h1,h2⟩:=h
 have hlen:l.length=rs.size:=by rw[OW h1];simp
 have lt: ∀{i x},l[i]? =some x→i<rs.size:=fun{i x} e=>by have:=Bb e;omega
 have pair: ∀i j,i<rs.size→j<rs.size→i≠j→SU rs l ws i j=true:=fun i j hi hj hne=>((h2 i hi).2 j hj).resolve_left hne
 refine⟨hlen,fun i x o hx ho=>TO h1 hx (by simpa using ho),fun i hi=>(h2 i hi).1.1,?_,?_,?_,?_,fun i lo hi hil hw=> ?_⟩
 ·intro i j x y t hx hy hne hd
  have:=pair i j (lt hx) (lt hy) hne
  simp only[SU,hx,hy,hd,Bool.and_eq_true,decide_eq_true_eq]at this
  exact this.1.1
 ·intro i j x y t hx hy hd ht
  by_cases hij:i=j
  ·exact .inr (.inr hij)
  ·have:=pair i j (lt hx) (lt hy) hij
   simp only[SU,hx,hy,hd,Bool.and_eq_true,Bool.or_eq_true,Bool.not_eq_true']at this
   rcases this.1.2 with h|h
   ·simp[ht]at h
   ·by_cases hlt:j<i
    ·rw[if_pos hlt]at h
     exact .inl ⟨hlt,h⟩
    ·rw[if_neg hlt]at h
     exact .inr (.inl ⟨by omega,h⟩)
 ·intro i j hi hj hne hwi hwj hlt
  have:=pair i j hi hj hne
  obtain⟨x,hx⟩: ∃x,l[i]? =some x:=⟨_,List.getElem?_eq_getElem (by omega)⟩
  obtain⟨y,hy⟩: ∃x,l[j]? =some x:=⟨_,List.getElem?_eq_getElem (by omega)⟩
  simp only[SU,hx,hy,hwi,hwj,Bool.and_eq_true,Bool.or_eq_true,Bool.not_eq_true',decide_eq_false_iff_not]at this
  exact this.2.resolve_left (by omega)
 ·intro i j lo hi hil hjl hwi hwj
  have hne:i≠j:=by rintro rfl;rw[hwi]at hwj;cases hwj
  have:=pair i j hil hjl hne
  obtain⟨x,hx⟩: ∃x,l[i]? =some x:=⟨_,List.getElem?_eq_getElem (by omega)⟩
  obtain⟨y,hy⟩: ∃x,l[j]? =some x:=⟨_,List.getElem?_eq_getElem (by omega)⟩
  simp only[SU,hx,hy,hwi,hwj,Bool.and_eq_true,Bool.or_eq_true,Bool.not_eq_true',decide_eq_false_iff_not]at this
  exact⟨fun h=>this.2.1.resolve_left (by omega),fun h=>this.2.2.resolve_left (by omega)⟩
 ·have:=(h2 i hil).1.2
  simpa only[hw,decide_eq_true_eq]using this
theorem Wk(hstep: ∀i ao,l[i]? =some ao→fr (i+1)=put (fr i) ao.d (vl i))(h3: ∀(i j:Nat) (x y:Bl) (t:Nat),l[i]? =some x→l[j]? =some y→i≠j→x.d=some t→y.d≠some t):
  ∀m,m≤l.length→(∀i x t,i<m→l[i]? =some x→x.d=some t→get (fr m) t=vl i)∧(∀t,(∀i x,i<m→l[i]? =some x→x.d≠some t)→get (fr m) t=get (fr 0) t)
 |0,_=>⟨fun _ _ _ h=>by omega,fun _ _=>rfl⟩
 |m+1,hm=>by
  obtain⟨q1,q2⟩:=Wk hstep h3 m (by omega)
  obtain⟨x,hx⟩: ∃x,l[m]? =some x:=⟨_,List.getElem?_eq_getElem (by omega)⟩
  rw[hstep m x hx]
  refine⟨fun i y t hi hy hd=> ?_,fun t ht=> ?_⟩
  ·rw[Vi]
   by_cases him:i=m
   ·subst him
    rw[hx]at hy
    obtain rfl:=Option.some.inj hy
    rw[if_pos hd]
   ·rw[if_neg (h3 i m y x t hy hx him hd)]
    exact q1 i y t (by omega) hy hd
  ·rw[Vi,if_neg (ht m x (by omega) hx)]
   exact q2 t fun i y hi=>ht i y (by omega)
theorem rE(hT: ∀ao o,T ao o=true→D3 P tb ao o)(hcl:Fs P tb fun g args h=>B6 tb cl h g args){Q:Exit→Act→World→Prop}(hok:okD T nt rs l ws=true)
  (hk:Ge ws l.length+1=hs.length) (hstep: ∀i ao,l[i]? =some ao→fr (i+1)=put (fr i) ao.d (vl i)∧ ∃w,ws[i]? =some w∧Stepped tb cl hs (Ge ws i) ao w (fr i) (vl i)) {C₀:D4}
  (k: ∀(D:D4) (a':Act),KM C₀ D→Inv tb D→hs.getLast?=some D.H→By D (fr l.length) a' nt→Q .normal a' D.w):
  ∀(fuel:Nat) (listed:Array Bool) (C:D4) (f:Fr) (a:Act),listed.toList.count false≤fuel→St rs l ws hs fr vl listed C.H f→KM C₀ C→Inv tb C→By C f a nt→wpAny P .any rs Q fuel listed a C.w:=by
 obtain⟨c1,c2,c3,c4,c5,c6,c7,c8⟩:=uB hok
 have lexf:=Wk (fun i ao h=>(hstep i ao h).1) c4
 have fin: ∀(listed:Array Bool) (C:D4) (f:Fr) (a:Act),Region.ready .any rs listed=[]→St rs l ws hs fr vl listed C.H f→KM C₀ C→Inv tb C→By C f a nt→Q .normal a C.w:=by
  intro listed C f a hr S X I F
  have all: ∀n i,i<n→i<rs.size→On listed i:=by
   intro n
   induction n with
   |zero=>intro i h;omega
   |succ n ih=>
    intro i hi hil
    refine Classical.byContradiction fun hno=> ?_
    have:i∈Region.ready .any rs listed:=(SN S.size).2 ⟨hil,hno,fun e he=>ih e (by have:=c3 i hil e he;omega) (by have:=c3 i hil e he;omega)⟩
    rw[hr]at this
    cases this
  have all': ∀i,i<rs.size→On listed i:=fun i hi=>all (i+1) i (by omega) hi
  obtain⟨q1,q2⟩:=lexf l.length (Nat.le_refl _)
  refine k C a X I ?_ ⟨fun t=> ?_,F.size,F.defers⟩
  ·obtain⟨m,hm,hw⟩:=S.heap
   have hml:=Bb hm
   have:m=Ge ws l.length:=by
    refine Classical.byContradiction fun hne=> ?_
    obtain⟨j,hj,hwj,hrj⟩:=N5 (ws:=ws) (n:=l.length) (k:=m) (by omega)
    have:=(hw j (by omega) hwj).1 (all' j (by omega))
    omega
   rw[List.getLast?_eq_getElem?,←hm]
   congr 1
   omega
  ·have:get (fr l.length) t=get f t:=by
    by_cases hex: ∃(i:Nat) (x:Bl),l[i]? =some x∧x.d=some t
    ·obtain⟨i,x,hx,hd⟩:=hex
     rw[q1 i x t (Bb hx) hx hd,S.vals i x t (all' i (by have:=Bb hx;omega)) hx hd]
    ·rw[q2 t fun i x _ hx hd=>hex ⟨i,x,hx,hd⟩,S.rest t fun i x _ hx hd=>hex ⟨i,x,hx,hd⟩]
   rw[this]
   exact F.rep t
 intro fuel
 induction fuel with
 |zero=>
  intro listed C f a hc S X I F
  have hr:Region.ready .any rs listed=[]:=by
   rw[List.eq_nil_iff_forall_not_mem]
   intro i hi
   obtain⟨hil,hno,_⟩:=(SN S.size).1 hi
   have h0:listed.toList.count false=0:=by omega
   rw[List.count_eq_zero]at h0
   apply hno
   have hil':i<listed.size:=by rw[S.size];exact hil
   unfold On
   rw[Array.getD_eq_getD_getElem?,Array.getElem?_eq_getElem hil']
   simp only[Option.getD_some]
   cases hv:listed[i]with
   |true=>rfl
   |false=>exact absurd (by rw[←hv];simp) h0
  exact⟨hr,fin listed C f a hr S X I F⟩
 |succ fuel ih=>
  intro listed C f a hc S X I F
  refine⟨fun hr=>fin listed C f a hr S X I F,fun i hi=> ?_⟩
  obtain⟨hil,hno,hall⟩:=(SN S.size).1 hi
  have hil':i<listed.size:=by rw[S.size];exact hil
  obtain⟨o,ho⟩: ∃o,rs[i]? =some o:=⟨rs[i],Array.getElem?_eq_getElem hil⟩
  obtain⟨ao,hao⟩: ∃x,l[i]? =some x:=⟨_,List.getElem?_eq_getElem (by omega)⟩
  obtain⟨g1,g2,g3,g4⟩:=TP (c2 i ao o hao ho)
  obtain⟨hfr,w,hwi,t,hwt,hfalse,htrue⟩:=hstep i ao hao
  obtain⟨q1,q2⟩:=lexf i (by omega)
  have alike:Alike tb f (fr i) (looks ao):=by
   intro u hu
   by_cases hex: ∃(j:Nat) (x:Bl),l[j]? =some x∧x.d=some u
   ·obtain⟨j,x,hx,hd⟩:=hex
    rcases c5 i j ao x u hao hx hd hu with ⟨hji,hanc⟩|hlate
    ·have hon:On listed j:=JX S.down hanc hall
     rw[q1 j x u hji hx hd,S.vals j x u hon hx hd]
    ·have hij:i≤j:=by rcases hlate with h|h<;>omega
     have hoff: ¬On listed j:=fun h=>by
      rcases hlate with ⟨_,hanc⟩|rfl
      ·exact hno (JX S.down hanc (S.down j h))
      ·exact hno h
     have one: ∀(k:Nat) (y:Bl),l[k]? =some y→y.d=some u→k=j:=fun k y hy hyd=>
      Classical.byContradiction fun hne=>c4 k j y x u hy hx hne hyd hd
     rw[q2 u fun k y hk hy hyd=>by have:=one k y hy hyd;omega,S.rest u fun k y hk hy hyd=>hoff (one k y hy hyd▸hk)]
   ·rw[q2 u fun j x _ hx hd=>hex ⟨j,x,hx,hd⟩,S.rest u fun j x _ hx hd=>hex ⟨j,x,hx,hd⟩]
  have hwt':wanted f ao.g=some t:=by rw[Zw alike.l];exact hwt
  have hwr:=Vs F g3 hwt'
  obtain⟨m,hm,hmw⟩:=S.heap
  have hcount:(listed.setIfInBounds i true).toList.count false≤fuel:=by
   have hv:listed[i]=false:=by
    cases hv:listed[i]with
    |false=>rfl
    |true=>exact absurd (by unfold On;rw[Array.getD_eq_getD_getElem?,Array.getElem?_eq_getElem hil',hv];rfl) hno
   rw[Array.toList_setIfInBounds,List.count_set (by simpa using hil')]
   have hv':listed.toList[i]'(by simpa using hil')=false:=by simpa using hv
   have hpos:0<listed.toList.count false:=List.count_pos_iff.2 (by rw[←hv];simp)
   rw[hv']
   simp only[beq_self_eq_true,if_true,beq_iff_eq,Bool.true_eq_false,if_false]
   omega
  have next: ∀(H:Ax),(w=none→hs[m+1]? =some H)→(w≠none→H=C.H)→St rs l ws hs fr vl (listed.setIfInBounds i true) H (put f ao.d (vl i)):=by
   intro H hn hq
   refine⟨by simp[S.size],?_,?_,?_,?_⟩
   ·intro j hj e he
    rw[ST hil']at hj ⊢
    rcases hj with rfl|hj
    ·exact .inr (hall e he)
    ·exact .inr (S.down j hj e he)
   ·cases hw:w with
    |none=>
     subst hw
     refine⟨m+1,hn rfl,fun j hj hwj=> ?_⟩
     have hmi:Ge ws i=m:=by
      have h1: ¬Ge ws i<m:=fun h=>hno ((hmw i hil hwi).2 h)
      have h2: ¬m<Ge ws i:=fun h=>by
       obtain⟨j,hj,hwj,hrj⟩:=N5 h
       have:=JX S.down (c6 i j hil (by omega) (by omega) hwi hwj hj) hall
       have:=(hmw j (by omega) hwj).1 this
       omega
      omega
     rw[ST hil',hmw j hj hwj]
     constructor
     ·rintro(rfl|h)
      ·omega
      ·omega
     ·intro h
      by_cases hji:j=i
      ·exact .inl hji
      ·right
       rcases Nat.lt_or_ge j i with h'|h'
       ·have:=Ve hwj h';omega
       ·have:=Ve hwi (show i<j by omega);omega
    |some p=>
     refine⟨m,by rw[hq (by rw[hw];simp)];exact hm,fun j hj hwj=> ?_⟩
     have hji:j≠i:=by rintro rfl;rw[hwi,hw]at hwj;cases hwj
     rw[ST hil',←hmw j hj hwj]
     exact⟨fun h=>h.resolve_left hji, .inr⟩
   ·intro j x u hj hx hd
    rw[Vi]
    rw[ST hil']at hj
    by_cases hji:j=i
    ·subst hji
     rw[hao]at hx
     obtain rfl:=Option.some.inj hx
     rw[if_pos hd]
    ·rw[if_neg (c4 j i x ao u hx hao hji hd)]
     exact S.vals j x u (hj.resolve_left hji) hx hd
   ·intro u hu
    rw[Vi,if_neg (hu i ao ((ST hil').2 (.inl rfl)) hao)]
    exact S.rest u fun j x hj hx=>hu j x ((ST hil').2 (.inr hj)) hx
  have hrank:w=none→Ge ws i=m:=by
   rintro rfl
   have h1: ¬Ge ws i<m:=fun h=>hno ((hmw i hil hwi).2 h)
   have h2: ¬m<Ge ws i:=fun h=>by
    obtain⟨j,hj,hwj,hrj⟩:=N5 h
    have:=JX S.down (c6 i j hil (by omega) (by omega) hwi hwj hj) hall
    have:=(hmw j (by omega) hwj).1 this
    omega
   omega
  have hrange: ∀lo hi,w=some (lo,hi)→lo≤m∧m≤hi:=by
   rintro lo hi rfl
   have hml:=Bb hm
   constructor
   ·refine Nat.le_of_not_lt fun h=> ?_
    obtain⟨j,hj,hwj,hrj⟩: ∃j,j<l.length∧ws[j]? =some none∧Ge ws j=m:=by
     by_cases hlt:m<Ge ws l.length
     ·exact N5 hlt
     ·have:=c8 i lo hi hil hwi
      rw[←c1]at this
      omega
    have:=JX S.down ((c7 i j lo hi hil (by omega) hwi hwj).1 (by omega)) hall
    have:=(hmw j (by omega) hwj).1 this
    omega
   ·refine Nat.le_of_not_lt fun h=> ?_
    obtain⟨j,hj,hwj,hrj⟩: ∃j,j<l.length∧ws[j]? =some none∧Ge ws j=hi:=N5 (by omega)
    have hon:=(hmw j (by omega) hwj).2 (by omega)
    exact hno (JX S.down ((c7 i j lo hi hil (by omega) hwi hwj).2 (by omega)) (S.down j hon))
  unfold wpOp
  simp only[ho,hwr]
  rw[←g1]
  cases t with
  |false=>
   simp only[Bool.false_eq_true,if_false]
   obtain⟨hv,hsame⟩:=hfalse rfl
   refine ih _ C (put f ao.d (.tup [])) _ hcount ?_ X I (F.put (KM.refl C) (fun t ht=>g2 t (g1▸ht)) (x:= .tup []) ⟨[],rfl,rfl⟩)
   rw[←hv]
   refine next C.H (fun hw=> ?_) fun _=>rfl
   rw[←hrank hw,←hsame hw,hrank hw]
   exact hm
  |true=>
   simp only[if_true]
   obtain⟨hW,hR⟩:=htrue rfl
   have land: ∀(u:Option Ax),Bz tb cl (eval tb f) C.H ao.o=some (vl i,u)→(w=none→hs[m+1]? =some (u.getD C.H))→(w≠none→u.getD C.H=C.H)→
     o.wp P a C.w (wpAny P .any rs Q fuel (listed.setIfInBounds i true)) Q:=by
    intro u hu h1 h2
    refine TF (hT _ _ g4 hcl I F hu) fun v D X' ID hH hr=> ?_
    rw[←g1]
    refine ih _ D (put f ao.d (vl i)) _ hcount ?_ (X.trans X') ID (F.put X' (fun t ht=>g2 t (g1▸ht)) hr)
    rw[hH]
    exact next _ h1 h2
   left
   cases hw:w with
   |none=>
    obtain⟨h,u,e1,e2,e3⟩:=hW hw
    rw[hrank hw]at e1 e3
    rw[hm]at e1
    obtain rfl:=Option.some.inj e1
    exact land u (by rw[Zk alike.r];exact e2) (fun _=>e3) fun hne=>absurd hw hne
   |some p=>
    obtain⟨lo,hi⟩:=p
    obtain⟨r1,r2⟩:=hrange lo hi hw
    obtain⟨h,u,e1,e2,e3⟩:=hR lo hi hw m r1 r2
    rw[hm]at e1
    obtain rfl:=Option.some.inj e1
    exact land u (by rw[Zk alike.r];exact e2) (fun hn=>absurd (hn.symm.trans hw) (by simp)) fun _=>e3
end
end Go.Proofs.YtobejhpigbllpaaGreatDoor.Am
namespace Go.Proofs.YtobejhpigbllpaaGreatDoor.Am
def ZN(l:List Bl):List (Option (Nat×Nat)):=l.map fun _=>some (0,0)
def QP(T:Im→Oper→Bool)(nt:Nat):AC→Code→Bool
 | .skip, .skip=>true
 | .reg l, .region _ rs false=>GF T nt rs l rs.toList
 | .regq l, .region _ rs true=>okD T nt rs l (ZN l)
 | .regd l ws, .region _ rs true=>okD T nt rs l ws
 | .seq x y, .seq c d=>QP T nt x c&&QP T nt y d
 | .cond x a b, .cond y c d=>Bk x y&&QP T nt a c&&QP T nt b d
 | .blk id x, .block id' c=>id==id'&&QP T nt x c
 | .loop _ x, .loop c=>QP T nt x c
 | .exit id, .exit id'=>id==id'
 | .ret, .ret=>true
 | .keep _ x,c=>QP T nt x c
 | .scope x, .scope c=>QP T nt x c
 | .skip, .label _=>true
 | .stop,_=>true
 |_,_=>false
def exOf:Ex→Exit
 | .normal=> .normal
 | .exit id=> .exit id
 | .ret=> .ret
section
variable{T:Im→Oper→Bool}{P:Program}{tb:Dg}{cl:Nat→List AV→Ax→Lb}{nt:Nat}
theorem ZS{h:Ax}: ∀(l:List Bl) {f f':Fr},Ir tb cl h l f=some f'→J6 tb cl [h] l (ZN l) 0 f=some f':=by
 intro l
 induction l with
 |nil=>intro f f' e;simpa [Ir,J6,ZN]using e
 |cons o l ih=>
  intro f f' e
  simp only[Ir]at e
  obtain⟨w,hw,e⟩:=Option.bind_eq_some_iff.1 e
  simp only[ZN,List.map_cons,J6,hw,Option.bind_some]
  cases w with
  |true=>
   simp only[if_true]at e ⊢
   obtain⟨p,hp,e⟩:=Option.bind_eq_some_iff.1 e
   split at e
   ·rename_i hsame
    simp only[List.getElem?_cons_zero,Option.bind_some,hp]
    rw[if_pos]
    ·exact ih e
    ·rw[List.all_eq_true]
     intro j hj
     rw[List.mem_range'_1]at hj
     have:j=0:=by omega
     subst this
     simp only[decide_eq_true_eq,List.getElem?_cons_zero,Option.bind_some,Option.getD_some]
     exact⟨p.2,by rw[hp],by rw[hsame]⟩
   ·cases e
  |false=>
   simp only[Bool.false_eq_true,if_false]at e ⊢
   exact ih e
theorem ZK{rs:Array Oper}{l:List Bl}{ws:List (Option (Nat×Nat))}{hs:List Ax}{fr:Nat→Fr}{vl:Nat→AV}{H:Ax}(hh:hs[0]? =some H):
  St rs l ws hs fr vl (Array.replicate rs.size false) H (fr 0):=by
 have hoff: ∀i,¬On (Array.replicate rs.size false) i:=by
  intro i h
  unfold On at h
  rw[Array.getD_eq_getD_getElem?,Array.getElem?_replicate]at h
  split at h<;>simp at h
 exact⟨by simp,fun i h=>absurd h (hoff i),⟨0,hh,fun j _ _=>⟨fun h=>absurd h (hoff j),fun h=>absurd h (Nat.not_lt_zero _)⟩⟩,fun i _ _ h=>absurd h (hoff i),fun _ _=>rfl⟩
theorem VP(hm:P.follows .mixedOrders=true)(hT: ∀ao o,T ao o=true→D3 P tb ao o)(hcl:Fs P tb fun g args h=>B6 tb cl h g args){Q:Exit→Act→World→Prop}{l:List Bl}
  {ws:List (Option (Nat×Nat))} {rs:Array Oper} {id:Nat} (h:okD T nt rs l ws=true) {C:D4} {f:Fr} {a:Act} (I:Inv tb C) (F:By C f a nt) {f':Fr} {hs:List Ax} (hh:hs[0]? =some C.H)
  (e:J6 tb cl hs l ws 0 f=some f') (k: ∀(D:D4) (a':Act),KM C D→Inv tb D→hs.getLast?=some D.H→By D f' a' nt→Q .normal a' D.w):(Code.region id rs true).wp P Q a C.w:=by
 obtain⟨fr,vl,h0,h1,h2,h3⟩:=pQ l ws 0 f f' e
 obtain⟨X,ID⟩:=drawn I (w:={C.w with drawn:=C.w.drawn+1}) ⟨rfl,rfl,rfl⟩ rfl
 subst h0
 subst h1
 refine wp_region_any hm ?_
 refine rE (vl:=vl) (C₀:=C) hT hcl h (by omega) (fun i ao hi=> ?_) k rs.size _ ⟨C.φ,C.H,{C.w with drawn:=C.w.drawn+1}⟩ (fr 0) a ?_ (ZK hh) X ID (F.ext X)
 ·have:=h3 i ao hi
  simpa only[Nat.zero_add]using this
 ·exact Nat.le_trans List.count_le_length (by simp)
theorem pY(Bi:List Nat)(f:Fr)(t:Nat):get (keepL Bi f) t=get f t∨get (keepL Bi f) t= .junk:=by
 induction Bi with
 |nil=>exact .inr rfl
 |cons u Bi ih=>
  simp only[keepL,List.map_cons,get]
  by_cases h:u=t
  ·subst h;left;rw[if_pos rfl]
  ·rw[if_neg h];exact ih
theorem By.keep{C:D4}{f:Fr}{a:Act}(F:By C f a nt)(Bi:List Nat):By C (keepL Bi f) a nt:=by
 refine⟨fun t=> ?_,F.size,F.defers⟩
 rcases pY Bi f t with h|h
 ·rw[h];exact F.rep t
 ·rw[h];trivial
theorem memH: ∀(l:Ax) (o:BW),o∈l→ED o≤Dh l:=by
 intro l
 induction l with
 |nil=>intro o h;cases h
 |cons x l ih=>
  intro o h
  simp only[Dh]
  rcases List.mem_cons.1 h with e|h
  ·subst e;omega
  ·have:=ih o h;omega
structure Next(tb:Dg)(C:D4)(nt:Nat)(f:Fr)(h:Ax)(D:D4)(a:Act):Prop where
 ext:KM C D
 inv:Inv tb D
 heap:D.H=h
 fr:By D f a nt
theorem lJ(hm:P.follows .mixedOrders=true)(hT: ∀ao o,T ao o=true→D3 P tb ao o)(hcl:Fs P tb fun g args h=>B6 tb cl h g args)(hg: ∀g cs,tb.gl g=some cs→Bu cs=0):
  ∀(ac:AC) (c:Code),QP T nt ac c=true→ ∀{C:D4} {f:Fr} {a:Act} {e:Ex} {f':Fr} {h':Ax},Bc tb cl ac f C.H=some (e,f',h')→Inv tb C→By C f a nt→
   ∀{Q:Exit→Act→World→Prop},(∀D a',Next tb C nt f' h' D a'→Q (exOf e) a' D.w)→c.wp P Q a C.w:=by
 intro ac
 induction ac with
 |skip=>
  intro c hok C f a e f' h' he I F Q k
  simp only[Bc,Option.some.injEq,Prod.mk.injEq]at he
  obtain⟨rfl,rfl,rfl⟩:=he
  cases c<;>simp only[QP,Bool.false_eq_true]at hok
  ·exact wp_skip (k C a ⟨KM.refl C,I,rfl,F⟩)
  ·exact wp_label (k C a ⟨KM.refl C,I,rfl,F⟩)
 |ret=>
  intro c hok C f a e f' h' he I F Q k
  cases c<;>simp only[QP,Bool.false_eq_true]at hok
  simp only[Bc,Option.some.injEq,Prod.mk.injEq]at he
  obtain⟨rfl,rfl,rfl⟩:=he
  exact wp_ret (k C a ⟨KM.refl C,I,rfl,F⟩)
 |exit id=>
  intro c hok C f a e f' h' he I F Q k
  cases c<;>simp only[QP,Bool.false_eq_true,beq_iff_eq]at hok
  subst hok
  simp only[Bc,Option.some.injEq,Prod.mk.injEq]at he
  obtain⟨rfl,rfl,rfl⟩:=he
  exact wp_exit (k C a ⟨KM.refl C,I,rfl,F⟩)
 |reg l=>
  intro c hok C f a e f' h' he I F Q k
  cases c with
  |region id rs b=>
   cases b<;>simp only[QP,Bool.false_eq_true]at hok
   simp only[Bc]at he
   obtain⟨p,hp,he⟩:=Option.map_eq_some_iff.1 he
   obtain⟨p1,p2⟩:=p
   simp only[Prod.mk.injEq]at he
   obtain⟨rfl,rfl,rfl⟩:=he
   exact pB hT hcl hok I F hp fun D a' X ID hH FD=>k D a' ⟨X,ID,hH,FD⟩
  |_=>simp[QP]at hok
 |regq l=>
  intro c hok C f a e f' h' he I F Q k
  cases c with
  |region id rs b=>
   cases b<;>simp only[QP,Bool.false_eq_true]at hok
   simp only[Bc]at he
   obtain⟨p,hp,he⟩:=Option.map_eq_some_iff.1 he
   simp only[Prod.mk.injEq]at he
   obtain⟨rfl,rfl,rfl⟩:=he
   refine VP hm hT hcl hok I F rfl (ZS l hp) fun D a' X ID hH FD=>k D a' ⟨X,ID,?_,FD⟩
   simpa using hH.symm
  |_=>simp[QP]at hok
 |regd l ws=>
  intro c hok C f a e f' h' he I F Q k
  cases c with
  |region id rs b=>
   cases b<;>simp only[QP,Bool.false_eq_true]at hok
   simp only[Bc]at he
   obtain⟨hs,_,he⟩:=Option.bind_eq_some_iff.1 he
   obtain⟨f1,hd,he⟩:=Option.bind_eq_some_iff.1 he
   obtain⟨h1,hl,he⟩:=Option.map_eq_some_iff.1 he
   simp only[Prod.mk.injEq]at he
   obtain⟨rfl,rfl,rfl⟩:=he
   refine VP hm hT hcl hok I F rfl hd fun D a' X ID hH FD=>k D a' ⟨X,ID,?_,FD⟩
   rw[hl]at hH
   exact(Option.some.inj hH).symm
  |_=>simp[QP]at hok
 |seq x y ihx ihy=>
  intro c hok C f a e f' h' he I F Q k
  cases c with
  |seq c d=>
   simp only[QP,Bool.and_eq_true]at hok
   simp only[Bc]at he
   obtain⟨p,hp,he⟩:=Option.bind_eq_some_iff.1 he
   obtain⟨e1,f1,h1⟩:=p
   refine wp_seq (ihx c hok.1 hp I F fun D a' N=> ?_)
   cases e1 with
   |normal=>
    obtain⟨X,ID,hH,FD⟩:=N
    exact ihy d hok.2 (by rw[hH];exact he) ID FD fun D' a'' N'=>k D' a'' ⟨X.trans N'.ext,N'.inv,N'.heap,N'.fr⟩
   |exit id=>
    simp only[Option.some.injEq,Prod.mk.injEq]at he
    obtain⟨rfl,rfl,rfl⟩:=he
    exact k D a' N
   |ret=>
    simp only[Option.some.injEq,Prod.mk.injEq]at he
    obtain⟨rfl,rfl,rfl⟩:=he
    exact k D a' N
  |_=>simp[QP]at hok
 |cond x y z ihy ihz=>
  intro c hok C f a e f' h' he I F Q k
  cases c with
  |cond v c d=>
   simp only[QP,Bool.and_eq_true]at hok
   have r:=AJ I F hok.1.1
   simp only[Bc]at he
   split at he
   ·rename_i t ht
    rw[ht]at r
    cases t with
    |true=>exact wp_cond_true r (ihy c hok.1.2 (by simpa using he) I F k)
    |false=>exact wp_cond_false r (ihz d hok.2 (by simpa using he) I F k)
   ·cases he
  |_=>simp[QP]at hok
 |blk id x ih=>
  intro c hok C f a e f' h' he I F Q k
  cases c with
  |block id' c=>
   simp only[QP,Bool.and_eq_true,beq_iff_eq]at hok
   obtain⟨rfl,hok⟩:=hok
   simp only[Bc]at he
   obtain⟨p,hp,he⟩:=Option.map_eq_some_iff.1 he
   obtain⟨e1,f1,h1⟩:=p
   refine wp_block (ih c hok hp I F fun D a' N=> ?_)
   cases e1 with
   |normal=>
    simp only[Prod.mk.injEq]at he
    obtain⟨rfl,rfl,rfl⟩:=he
    exact k D a' N
   |ret=>
    simp only[Prod.mk.injEq]at he
    obtain⟨rfl,rfl,rfl⟩:=he
    exact k D a' N
   |exit id'=>
    simp only at he
    simp only[exOf,Exit.inBlock]
    by_cases hid:id'=id
    ·rw[if_pos hid]at he ⊢
     simp only[Prod.mk.injEq]at he
     obtain⟨rfl,rfl,rfl⟩:=he
     exact k D a' N
    ·rw[if_neg hid]at he ⊢
     simp only[Prod.mk.injEq]at he
     obtain⟨rfl,rfl,rfl⟩:=he
     exact k D a' N
  |_=>simp[QP]at hok
 |scope x ih=>
  intro c hok C f a e f' h' he I F Q k
  cases c with
  |scope c=>
   simp only[QP]at hok
   refine wp_scope_straight (ih c hok he I F fun D a' N=> ?_)
   have:=k D a' N
   cases e<;>exact this
  |_=>simp[QP]at hok
 |stop=>
  intro c hok C f a e f' h' he I F Q k
  simp[Bc]at he
 |keep Bi x ih=>
  intro c hok C f a e f' h' he I F Q k
  simp only[QP]at hok
  simp only[Bc]at he
  obtain⟨p,hp,he⟩:=Option.map_eq_some_iff.1 he
  obtain⟨e1,f1,h1⟩:=p
  refine ih c hok hp I F fun D a' N=> ?_
  cases e1 with
  |normal=>
   simp only[Prod.mk.injEq]at he
   obtain⟨rfl,rfl,rfl⟩:=he
   exact k D a' ⟨N.ext,N.inv,N.heap,N.fr.keep Bi⟩
  |exit id=>
   simp only[Prod.mk.injEq]at he
   obtain⟨rfl,rfl,rfl⟩:=he
   exact k D a' N
  |ret=>
   simp only[Prod.mk.injEq]at he
   obtain⟨rfl,rfl,rfl⟩:=he
   exact k D a' N
 |loop Bi x ih=>
  intro c hok C f a e f' h' he I F Q k
  cases c with
  |loop c=>
   simp only[QP]at hok
   simp only[Bc,lp]at he
   split at he
   ·rename_i hex
    have key: ∀(n:Nat) {D:D4} {f:Fr} {a:Act},Q0 (K4 Bi (Bc tb cl x)) n f D.H=some (e,f',h')→KM C D→Inv tb D→By D f a nt→Code.rounds P c Q n a D.w:=by
     intro n
     induction n with
     |zero=>intro D f a h;simp[Q0]at h
     |succ n ihn=>
      intro D f a h X ID FD
      simp only[Q0]at h
      rw[rounds_succ]
      have rnd: ∀{e1 f1 h1},K4 Bi (Bc tb cl x) f D.H=some (e1,f1,h1)→ ∃f2 h2,Bc tb cl x (keepL Bi f) D.H=some (e1,f2,h2)∧
        (e1= .normal→(f1,h1)=(keepL Bi f2,h2))∧(e1≠ .normal→f1=f2∧h1=h2):=by
       intro e1 f1 h1 hr
       simp only[K4]at hr
       obtain⟨⟨e2,f2,h2⟩,hp,hr⟩:=Option.map_eq_some_iff.1 hr
       cases e2<;>simp only[Prod.mk.injEq]at hr
       ·obtain⟨he1,hq⟩:=hr
        subst he1
        exact⟨f2,h2,hp,fun _=>by rw[hq.1,hq.2],fun h=>absurd rfl h⟩
       all_goals obtain⟨rfl,rfl,rfl⟩:=hr
       ·exact⟨_,_,hp,fun h=>(by cases h),fun _=>⟨rfl,rfl⟩⟩
       ·exact⟨_,_,hp,fun h=>(by cases h),fun _=>⟨rfl,rfl⟩⟩
      cases hr:K4 Bi (Bc tb cl x) f D.H with
      |none=>rw[hr]at h;simp at h
      |some p=>
       obtain⟨e1,f1,h1⟩:=p
       rw[hr]at h
       obtain⟨f2,h2,hx,hn,ho⟩:=rnd hr
       refine ih c hok hx ID (FD.keep Bi) fun D' a' N=> ?_
       by_cases hnorm:e1= .normal
       ·subst hnorm
        have hs:=hn rfl
        simp only[]at h
        simp only[exOf,Exit.then]
        obtain⟨X',ID',hH',FD'⟩:=N
        simp only[Prod.mk.injEq]at hs
        obtain⟨rfl,rfl⟩:=hs
        exact ihn (D:=D') (f:=keepL Bi f2) (by rw[hH'];exact h) (X.trans X') ID' (FD'.keep Bi)
       ·obtain⟨rfl,rfl⟩:=ho hnorm
        have h':some (e1,f1,h1)=some (e,f',h'):=by
         cases e1 with
         |normal=>exact absurd rfl hnorm
         |exit id=>simpa using h
         |ret=>simpa using h
        simp only[Option.some.injEq,Prod.mk.injEq]at h'
        obtain⟨rfl,rfl,rfl⟩:=h'
        have:=k D' a' ⟨X.trans N.ext,N.inv,N.heap,N.fr⟩
        cases e1 with
        |normal=>exact absurd rfl hnorm
        |exit id=>exact this
        |ret=>exact this
    exact wp_loop_rounds _ (key _ he (KM.refl C) I F)
   ·cases he
  |_=>simp[QP]at hok
end
end Go.Proofs.YtobejhpigbllpaaGreatDoor.Am
namespace Go.Proofs.YtobejhpigbllpaaGreatDoor.Am
def dU(P:Program):KK→ResultVar→Bool
 | .tmp t, .tmp u=>t==u
 | .cell ag n a, .cell b t=>a==b&&ag==Fi P t&&n==P.cellsOf t&&(P.underlying t).isSome
 |_,_=>false
def OV(P:Program):List KK→List ResultVar→Bool
 |[],[]=>true
 |x::r,y::q=>dU P x y&&OV P r q
 |_,_=>false
def B8(T:Im→Oper→Bool)(P:Program)(fn:D7)(g:Nat):Bool:=
 match P.funcs[g]? with
 |some F=>(match F.body with
  |some c=>QP T fn.nt fn.body c
  |none=>false)&& !(F.name== "runtime.NumGoroutine")&&fn.nt==F.ntmps&&decide (fn.np≤fn.nt)&&OV P fn.res F.results.toList
 |none=>false
section
variable{T:Im→Oper→Bool}{P:Program}{tb:Dg}{cl:Nat→List AV→Ax→Lb}{nt:Nat}
theorem VJ{C:D4}(I:Inv tb C){t:TypeId}(hu:(P.underlying t).isSome=true){x:AV}{y:Value}(hr:Gc C x y){v:AV}(h:load C.H (Fi P t) (P.cellsOf t) x=some v):
  ∃(p:Addr) (z:Value),y= .pointer (some p)∧(loadVar t p).run P C.w= .ok z C.w∧Gc C v z:=by
 simp only[load]at h
 cases hp:place C.H x with
 |none=>rw[hp]at h;simp at h
 |some q=>
  obtain⟨cs,off⟩:=q
  rw[hp]at h
  simp only[Option.bind_some]at h
  split at h
  ·rename_i hle
   obtain⟨b,base,vs,e,hh,hl,hs⟩:=YC I hr hp
   have hsub:=hh.sub off (P.cellsOf t)
   have hrl:Bg C (sub cs off (P.cellsOf t)) ((vs.drop off).take (P.cellsOf t)):=hl.drop.take
   have hlen:((vs.drop off).take (P.cellsOf t)).length=P.cellsOf t:=by
    rw[hrl.length];simp only[sub,List.length_take,List.length_drop];omega
   obtain⟨q1,q2⟩:=T8 h (Om hs off _) hrl
   have hinfo:(P.info? t).isSome=true:=by
    obtain⟨d,hd⟩:=Option.isSome_iff_exists.1 hu
    exact info_of_underlying hd
   have hlc:=HC (P:=P) hsub
   rw[hlen]at hlc
   cases hag:Fi P t with
   |true=>
    refine⟨_, .agg ((vs.drop off).take (P.cellsOf t)).toArray,e,?_,q1 hag⟩
    simp only[loadVar,Sem.run_bind,Sem.run_pure,Result.andThen_ok,Fj t C.w hu,hag,if_true,BX hinfo,hlc]
   |false=>
    obtain⟨z,hz,rz⟩:=q2 hag
    have hc:C.w.cell? ⟨b,base+off,none⟩=some z:=by
     have:=hsub 0 z (by rw[hz];rfl)
     simpa using this
    refine⟨_,z,e,?_,rz⟩
    simp only[loadVar,Sem.run_bind,Result.andThen_ok,Fj t C.w hu,hag,Bool.false_eq_true,if_false,run_load,hc]
  ·cases h
theorem dN{C:D4}(I:Inv tb C){f:Fr}{a:Act}(F:By C f a nt): ∀(l:List KK) (rs:List ResultVar),OV P l rs=true→ ∀{vs:List AV},results f C.H l=some vs→
  ∃xs:List Value,(rs.mapM (m:=Sem) fun
   | .tmp t=>pure (a.tmps.getD t undef)
   | .cell b t=>do loadVar t (←asAddr (a.tmps.getD b undef))).run P C.w= .ok xs C.w∧Bg C vs xs:=by
 intro l
 induction l with
 |nil=>
  intro rs h vs e
  cases rs with
  |cons r rs=>simp[OV]at h
  |nil=>
   simp only[results,Option.some.injEq]at e
   subst e
   exact⟨[],by simp,rfl⟩
 |cons x l ih=>
  intro rs h vs e
  cases rs with
  |nil=>simp[OV]at h
  |cons r rs=>
   simp only[OV,Bool.and_eq_true]at h
   obtain⟨h1,h2⟩:=h
   cases x with
   |tmp t=>
    cases r with
    |cell b t=>simp[dU]at h1
    |tmp u=>
     simp only[dU,beq_iff_eq]at h1
     subst h1
     simp only[results]at e
     obtain⟨vs',hv,rfl⟩:=Option.map_eq_some_iff.1 e
     obtain⟨xs,q1,q2⟩:=ih rs h2 hv
     refine⟨a.tmps.getD t undef::xs,?_,⟨_,_,rfl,F.rep t,q2⟩⟩
     simp only[List.mapM_cons,Sem.run_bind,Sem.run_pure,Result.andThen_ok,q1]
   |cell ag n t=>
    cases r with
    |tmp u=>simp[dU]at h1
    |cell b ty=>
     simp only[dU,Bool.and_eq_true,beq_iff_eq]at h1
     obtain⟨⟨⟨rfl,rfl⟩,rfl⟩,hu⟩:=h1
     simp only[results]at e
     obtain⟨v,hv,e⟩:=Option.bind_eq_some_iff.1 e
     obtain⟨vs',hv',rfl⟩:=Option.map_eq_some_iff.1 e
     obtain⟨xs,q1,q2⟩:=ih rs h2 hv'
     obtain⟨p,z,hp,hz,rz⟩:=VJ I hu (F.rep t) hv
     refine⟨z::xs,?_,⟨_,_,rfl,rz,q2⟩⟩
     have ha:(asAddr (a.tmps.getD t undef)).run P C.w= .ok p C.w:=by rw[hp];rfl
     simp only[List.mapM_cons,Sem.run_bind,Sem.run_pure,Result.andThen_ok,ha,hz,q1]
def dR:List Value→Value
 |[x]=>x
 |xs=> .tuple xs.toArray
theorem N8{C:D4}: ∀{vs:List AV} {xs:List Value},Bg C vs xs→Gc C (GE vs) (dR xs)
 |[],xs,h=>by rw[show xs=[]from h];exact⟨[],rfl,rfl⟩
 |[v],xs,⟨x,q,e,h1,h2⟩=>by rw[e,show q=[]from h2];exact h1
 |v::u::vs,xs,⟨x,q,e,h1,⟨y,q',e',h2,h3⟩⟩=>by
  rw[e,e']
  exact⟨x::y::q',rfl,x,_,rfl,h1,y,_,rfl,h2,h3⟩
theorem dG{fn:Func}{C:D4}(I:Inv tb C){f:Fr}{a:Act}(F:By C f a nt){l:List KK}(h:OV P l fn.results.toList=true){vs:List AV}(e:results f C.H l=some vs):
  ∃xs,(Go.results fn a.tmps).run P C.w= .ok (dR xs) C.w∧Bg C vs xs:=by
 obtain⟨xs,h1,h2⟩:=dN I F l _ h e
 refine⟨xs,?_,h2⟩
 have hrun:(Go.results fn a.tmps).run P C.w= .ok (if h:xs.toArray.size=1 then xs.toArray[0]else .tuple xs.toArray) C.w:=by
  unfold Go.results
  rw[Array.mapM_eq_mapM_toList,Sem.run_bind,Sem.run_map]
  exact congrArg (fun r=>(Result.andThen (Result.andThen r fun a w'=> .ok a.toArray w') fun a w'=>Sem.run P (pure (if h:a.size=1 then a[0]else Value.tuple a)) w')) h1
 rw[hrun]
 match xs with
 |[]=>rfl
 |[x]=>rfl
 |x::y::xs=>simp[dR]
end
end Go.Proofs.YtobejhpigbllpaaGreatDoor.Am
namespace Go.Proofs.YtobejhpigbllpaaGreatDoor.Am
section
variable{T:Im→Oper→Bool}{P:Program}{tb:Dg}{cl:Nat→List AV→Ax→Lb}{nt:Nat}
theorem TR{D:D4}(I:Inv tb D){n id:Nat}(hid:id<D.H.length)(h: ¬id<n): ¬(D.cut n).own (D.φ id).blk:=by
 rintro⟨j,hj,e⟩
 simp only[D4.cut,List.length_take]at hj
 have:=I.inj j id (by omega) hid e
 omega
theorem fP{D:D4}{n:Nat}{v:AV}{x:Value}(h:BS v≤n)(r:Gc D v x):Gc (D.cut n) v x∧(scal v=true→scal v=true):=⟨r.cut h,fun h=>h⟩
def xK(D:D4)(n:Nat)(F:AV→Option AV):Prop:= ∀(v v':AV) (x:Value),F v=some v'→Gc D v x→Gc (D.cut n) v' x∧(scal v=true→scal v'=true)
theorem L1{D:D4}{n:Nat}{F:AV→Option AV}(hF:xK D n F): ∀{l l':List AV} {xs:List Value},DL F l=some l'→Bg D l xs→Bg (D.cut n) l' xs∧(l.all scal=true→l'.all scal=true)∧l'.length=l.length
 |[],_,_,h,r=>by
  simp only[DL,Option.some.injEq]at h
  subst h
  exact⟨r,fun h=>h,rfl⟩
 |v::l,_,_,h,⟨x,q,e,r,rr⟩=>by
  simp only[DL]at h
  obtain⟨v',hv,h⟩:=Option.bind_eq_some_iff.1 h
  obtain⟨l',hl,rfl⟩:=Option.map_eq_some_iff.1 h
  obtain⟨h1,h2⟩:=hF _ _ _ hv r
  obtain⟨h3,h4,h5⟩:=L1 hF hl rr
  refine⟨⟨x,q,e,h1,h3⟩,fun hs=> ?_,by simp[h5]⟩
  simp only[List.all_cons,Bool.and_eq_true]at hs ⊢
  exact⟨h2 hs.1,h4 hs.2⟩
theorem NG{D:D4}{n sz:Nat}{F:AV→Option AV}(hF:xK D n F): ∀{l l':List (List AV)} {xs:List (List Value)},DL (DL F) l=some l'→AY D l xs→(∀e∈l,e.length=sz∧e.all scal=true)→
  AY (D.cut n) l' xs∧(∀e∈l',e.length=sz∧e.all scal=true)∧l'.length=l.length
 |[],_,_,h,r,_=>by
  simp only[DL,Option.some.injEq]at h
  subst h
  exact⟨r,fun e h=>(by cases h),rfl⟩
 |v::l,_,_,h,⟨x,q,e,r,rr⟩,hs=>by
  simp only[DL]at h
  obtain⟨v',hv,h⟩:=Option.bind_eq_some_iff.1 h
  obtain⟨l',hl,rfl⟩:=Option.map_eq_some_iff.1 h
  obtain⟨h1,h2,h6⟩:=L1 hF hv r
  obtain⟨h3,h4,h5⟩:=NG hF hl rr fun e he=>hs e (List.mem_cons_of_mem _ he)
  refine⟨⟨x,q,e,h1,h3⟩,fun e he=> ?_,by simp[h5]⟩
  have h0:=hs v List.mem_cons_self
  rcases List.mem_cons.1 he with rfl|he
  ·exact⟨h6.trans h0.1,h2 h0.2⟩
  ·exact h4 e he
theorem aR{D:D4}(I:Inv tb D){n:Nat}: ∀d,xK D n (frz D.H n d)
 |0=>fun v v' x h r=>by
  simp only[frz]at h
  split at h
  ·rename_i hm
   obtain rfl:=Option.some.inj h
   exact fP hm r
  ·cases h
 |d+1=>fun v v' x h r=>by
  simp only[frz]at h
  split at h
  ·rename_i hm
   obtain rfl:=Option.some.inj h
   exact fP hm r
  ·rename_i hm
   have ih:=aR I (n:=n) d
   split at h
   ·rename_i id k lo len
    have hid: ¬id<n:=by simp only[BS]at hm;omega
    obtain⟨_,fz,sz,els,hg,hle,q⟩:=r
    simp only[hg,Option.bind_some]at h
    split at h
    ·rename_i hc
     obtain⟨hk,hlo⟩:=hc
     obtain⟨els',he,rfl⟩:=Option.map_eq_some_iff.1 h
     refine⟨?_,fun _=>rfl⟩
     obtain⟨_,off,cap,rfl,hlc,hoff,_,_⟩:=q hk
     obtain⟨tl,hg',hlab⟩:=Iv hg
     obtain⟨vss,arr,et,fr,⟨h1,_⟩,h2,h3,h4,h5,h6,h7,h8,h9⟩:=I.obj id _ hg'
     have hlens:=AY.lens (fun x hx=>(h4 x hx).1) h5
     have hlen:((els.drop lo).take len).length=len:=by simp only[List.length_take,List.length_drop];omega
     obtain⟨q1,q2,q3⟩:=NG (sz:=sz) ih he (h5.drop.take) fun e he=>h4 e (List.mem_of_mem_drop (List.mem_of_mem_take he))
     refine .inl ⟨(D.φ id).blk,off,cap,(vss.drop lo).take len,by rw[q3,hlen],by rw[q3,hlen];exact hlc,I.lt id (Bb hg'),TR I (Bb hg') hid,?_,q2,q1⟩
     intro j v hj
     have hpos:0<len:=by
      rcases Nat.eq_zero_or_pos len with h|h
      ·subst h;simp at hj
      ·exact h
     rw[hoff hpos]
     have hh:=h7.sub (lo*sz) (len*sz)
     refine hh j v ?_
     rw[E0 (sz:=sz) _ _ (fun x hx=>hlens x (List.mem_of_mem_drop hx)),EW (sz:=sz) _ _ hlens]at hj
     exact hj
    ·cases h
   ·rename_i sz id off len
    have hid: ¬id<n:=by simp only[BS]at hm;omega
    obtain⟨_,o,cap,rfl,hlc,hoff,hsz⟩:=r
    obtain⟨cs,hc,h⟩:=Option.bind_eq_some_iff.1 h
    split at h
    ·rename_i hcond
     obtain⟨els',he,rfl⟩:=Option.map_eq_some_iff.1 h
     refine⟨?_,fun _=>rfl⟩
     obtain⟨tl,hg,hlab⟩:=Np hc
     obtain⟨vs,arr,et,fr,⟨h1,_⟩,h2,h3,h4,h5,h6⟩:=I.obj id _ hg
     obtain⟨c1,c2,vss,c3,c4⟩:=Uq (C:=D) sz len (cs.drop off) (vs.drop off) D.w (D.φ id).blk off (by
      simp only[List.all_eq_true]at h3 ⊢
      exact fun x hx=>h3 x (List.mem_of_mem_drop hx)) h4.drop (by
      have:=h5.sub off (vs.drop off).length
      rw[Nat.zero_add]at this
      rwa [List.take_of_length_le (Nat.le_refl _)]at this) (by simp only[List.length_drop];omega)
     obtain⟨q1,q2,q3⟩:=NG (sz:=sz) ih he c4 c2
     refine .inl ⟨(D.φ id).blk,o,cap,vss,by rw[q3,c1],by rw[q3,c1];exact hlc,I.lt id (Bb hg),TR I (Bb hg) hid,?_,q2,q1⟩
     intro j v hj
     have hpos:0<len:=by
      rcases Nat.eq_zero_or_pos len with h|h
      ·subst h
       simp only[BK]at c4
       rw[show vss=[]from c4]at hj
       simp at hj
      ·exact h
     rw[hoff hpos]
     exact c3 j v hj
    ·cases h
   ·rename_i sz els
    obtain⟨els',he,rfl⟩:=Option.map_eq_some_iff.1 h
    refine⟨?_,fun _=>rfl⟩
    rcases r with ⟨b,base,cap,vss,rfl,hlc,hlt,hown,hh,hs,hr⟩|⟨rfl,p,cap,rfl⟩
    ·obtain⟨q1,q2,q3⟩:=NG (sz:=sz) ih he hr hs
     exact .inl ⟨b,base,cap,vss,by rw[q3],by rw[q3];exact hlc,hlt,PQ hown,hh,q2,q1⟩
    ·simp only[DL,Option.some.injEq]at he
     subst he
     exact .inr ⟨rfl,p,cap,rfl⟩
   ·rename_i cs
    obtain⟨vs,e,s,q⟩:=r
    obtain⟨cs',hc,rfl⟩:=Option.map_eq_some_iff.1 h
    obtain⟨h1,h2,_⟩:=L1 ih hc q
    exact⟨⟨vs,e,h2 s,h1⟩,fun h=>by simp[scal]at h⟩
   ·rename_i cs
    obtain⟨vs,e,q⟩:=r
    obtain⟨cs',hc,rfl⟩:=Option.map_eq_some_iff.1 h
    exact⟨⟨vs,e,(L1 ih hc q).1⟩,fun h=>by simp[scal]at h⟩
   ·cases h
theorem vU{D:D4}(I:Inv tb D){n:Nat}{l l':List AV}{xs:List Value}(h:aS D.H n l=some l')(r:Bg D l xs):Bg (D.cut n) l' xs∧(l.all scal=true→l'.all scal=true):=
 ⟨(L1 (aR I 12) h r).1,(L1 (aR I 12) h r).2.1⟩
theorem eI{C D:D4}(X:KM C D)(I:Inv tb D)(hg: ∀g cs,tb.gl g=some cs→Bu cs=0){vs:List AV}{xs:List Value}(h:Bg D vs xs):
  ∃D':D4,KM C D'∧Inv tb D'∧D'.w=D.w∧D'.H=(Wl C.H.length D.H vs).2.getD C.H∧Gc D' (Wl C.H.length D.H vs).1 (dR xs):=by
 unfold Wl
 split
 ·rename_i vs' hf
  split
  ·rename_i hm
   exact⟨D.cut C.H.length,X.cut (Nat.le_refl _),I.cut hm hg,rfl,rfl,N8 (vU I hf h).1⟩
  ·exact⟨D,X,I,rfl,rfl,N8 h⟩
 ·exact⟨D,X,I,rfl,rfl,N8 h⟩
theorem jE{C D:D4}(X:KM C D)(I:Inv tb D)(hg: ∀g cs,tb.gl g=some cs→Bu cs=0){warm:Bool}{vs:List AV}{xs:List Value}(h:Bg D vs xs):
  ∃D':D4,KM C D'∧Inv tb D'∧D'.w=D.w∧D'.H=(VU warm C.H.length D.H vs).2.getD C.H∧Gc D' (VU warm C.H.length D.H vs).1 (dR xs):=by
 cases warm
 ·exact eI X I hg h
 ·exact⟨D,X,I,rfl,rfl,N8 h⟩
theorem fM: ∀(l:List AV) (k t:Nat),get ((l.zipIdx k).map fun p=>(p.2,p.1)) t=if k≤t then l[t-k]?.getD .junk else .junk
 |[],k,t=>by simp[get]
 |v::l,k,t=>by
  simp only[List.zipIdx_cons,List.map_cons,get]
  rw[fM l (k+1) t]
  by_cases h:k=t
  ·subst h;simp
  ·rw[if_neg h]
   by_cases h1:k≤t
   ·rw[if_pos (show k+1≤t by omega),if_pos h1,show t-k=(t-(k+1))+1 by omega]
    simp
   ·rw[if_neg (by omega),if_neg h1]
theorem AaA{C:D4}{args:List AV}{vs:List Value}(h:Bg C args vs){m:Nat}(hm:args.length≤m):
  By C (args.zipIdx.map fun p=>(p.2,p.1)) {tmps:=vs.toArray++Array.replicate (m-vs.toArray.size) undef,defers:=[]} m:=by
 have hl:=h.length
 refine⟨fun t=> ?_,by simp;omega,rfl⟩
 rw[fM,if_pos (Nat.zero_le _),Nat.sub_zero]
 cases ht:args[t]? with
 |none=>trivial
 |some v=>
  obtain⟨x,hx,r⟩:=h.get ht
  have:t<vs.length:=Bb hx
  simp only[Option.getD_some,Array.getD_eq_getD_getElem?]
  rw[Array.getElem?_append_left (by simpa using this)]
  simpa [hx]using r
theorem YI{fn:D7}{g:Nat}(h:B8 T P fn g=true): ∃(F:Func) (c:Code),P.funcs[g]? =some F∧F.body=some c∧QP T fn.nt fn.body c=true∧(F.name== "runtime.NumGoroutine")=false∧fn.nt=F.ntmps∧fn.np≤fn.nt∧
  OV P fn.res F.results.toList=true:=by
 unfold B8 at h
 split at h
 ·rename_i F hF
  simp only[Bool.and_eq_true,Bool.not_eq_true',beq_iff_eq,decide_eq_true_eq]at h
  obtain⟨⟨⟨⟨h1,h2⟩,h3⟩,h4⟩,h5⟩:=h
  split at h1
  ·rename_i c hc
   exact⟨F,c,hF,hc,h1,h2,h3,h4,h5⟩
  ·cases h1
 ·cases h
theorem Xk(hm:P.follows .mixedOrders=true)(hT: ∀ao o,T ao o=true→D3 P tb ao o)(hcl:Fs P tb fun g args h=>B6 tb cl h g args)(hg: ∀g cs,tb.gl g=some cs→Bu cs=0)
  {fn:D7} {g:Nat} (hok:B8 T P fn g=true) {C:D4} {args:List AV} {vs:List Value} {r:AV×Option Ax} (I:Inv tb C) (hr:Bg C args vs) (h:body tb cl fn args C.H=some r):
  Calls P g vs.toArray C.w (oP tb C r):=by
 obtain⟨F,c,hF,hc,h1,h2,h3,h4,h5⟩:=YI hok
 simp only[body]at h
 split at h
 ·rename_i hnp
  obtain⟨⟨e,f,h'⟩,he,h⟩:=Option.bind_eq_some_iff.1 h
  refine calls_of_wp hF hc ?_
  rw[←h3]
  refine lJ hm hT hcl hg fn.body c h1 he I (AaA hr (by omega)) fun D a' N=> ?_
  obtain⟨X,ID,hH,FD⟩:=N
  have fin: ∀us,results f h' fn.res=some us→VU fn.warm C.H.length h' us=r→ ∃v,(Go.results F a'.tmps).run P D.w= .ok v D.w∧oP tb C r (.returned v) D.w:=by
   intro us hus hl
   rw[←hH]at hus hl
   obtain⟨xs,hx,rx⟩:=dG ID FD h5 hus
   obtain⟨D',X',I',hw,hH',r'⟩:=jE (warm:=fn.warm) X ID hg rx
   rw[hl]at hH' r'
   exact⟨_,hx,_,D',rfl,X',I',hw,hH',r'⟩
  cases e with
  |exit id=>simp at h
  |normal=>
   obtain⟨us,hus,hl⟩:=Option.map_eq_some_iff.1 h
   exact⟨FD.defers,fin us hus hl⟩
  |ret=>
   obtain⟨us,hus,hl⟩:=Option.map_eq_some_iff.1 h
   exact⟨FD.defers,fin us hus hl⟩
 ·cases h
structure Fits(T:Im→Oper→Bool)(P:Program)(tb:Dg):Prop where
 mixed:P.follows .mixedOrders=true
 ops: ∀ao o,T ao o=true→D3 P tb ao o
 prims:oN P tb
 gl: ∀g cs,tb.gl g=some cs→Bu cs=0
 fns: ∀g fn,tb.fns g=some fn→B8 T P fn g=true
theorem gP{fn:D7}{g:Nat}(hok:B8 T P fn g=true)(vs:Array Value)(w:World):(callFunc g vs).run P w= .ok (.enter g vs) w:=by
 obtain⟨F,c,hF,hc,_,h2,_⟩:=YI hok
 have h2': ¬F.name= "runtime.NumGoroutine" :=by simpa using h2
 simp[callFunc,hF,hc,h2']
theorem Y5(ft:Fits T P tb): ∀n,Fs P tb (run tb n)
 |0=>fun g C args vs r I hr h=>by simp[run]at h
 |n+1=>fun g C args vs r I hr h=>by
  simp only[run]at h
  obtain⟨fn,hfn,h⟩:=Option.bind_eq_some_iff.1 h
  have hok:=ft.fns g fn hfn
  exact .inr ⟨g,vs.toArray,gP hok _ _,Xk ft.mixed ft.ops (O6 ft.prims (Y5 ft n)) ft.gl hok I hr h⟩
theorem qW(ft:Fits T P tb){g:Nat}{C:D4}{args:List AV}{vs:List Value}{r:AV×Option Ax}(I:Inv tb C)(hr:Bg C args vs)(h:C1 tb g args C.H=some r):Calls P g vs.toArray C.w (oP tb C r):=by
 unfold C1 at h
 split at h
 ·generalize Classical.choose _=n at h
  cases n with
  |zero=>simp[run]at h
  |succ n=>
   simp only[run]at h
   obtain⟨fn,hfn,h⟩:=Option.bind_eq_some_iff.1 h
   exact Xk ft.mixed ft.ops (O6 ft.prims (Y5 ft n)) ft.gl (ft.fns g fn hfn) I hr h
 ·cases h
end
end Go.Proofs.YtobejhpigbllpaaGreatDoor.Am
namespace Go.Proofs.YtobejhpigbllpaaGreatDoor.Am
def lI(P:Program)(g:Nat):Option (Array Value→Sem Value):=
 match P.funcs[g]? with
 |some fn=>if !(fn.name== "runtime.NumGoroutine")&&fn.body.isNone&&(Extern.findNext fn).isNone then Extern.find fn else none
 |none=>none
def bT(h:Ax):AV→Option (List UInt8)
 | .s l=>some l
 |v=>(EP h 1 v).bind EL
section
variable{P:Program}{tb:Dg}{C:D4}
theorem mW{g:Nat}{e:Array Value→Sem Value}(he:lI P g=some e){vs:Array Value}{v:Value}{w:World}(h:(e vs).run P w= .ok v w):(callFunc g vs).run P w= .ok (.value v) w:=by
 unfold lI at he
 split at he
 ·rename_i fn hf
  split at he
  ·rename_i hc
   simp only[Bool.and_eq_true,Bool.not_eq_true',Option.isNone_iff_eq_none]at hc
   obtain⟨⟨h1,h2⟩,h3⟩:=hc
   have h2':fn.body.isNone=true:=by rw[h2];rfl
   simp only[callFunc,Sem.run_bind,run_program,Result.andThen_ok,hf,h1,Bool.false_eq_true,if_false,h2',if_true,run_mark,h3,he,h,Sem.run_pure]
  ·cases he
 ·cases he
theorem rA{e:List AV}{r:List (List AV)}{l:List UInt8}(h:EL (e::r)=some l): ∃n q,e=[.i .u8 n]∧EL r=some q∧l=UInt8.ofNat n.toNat::q:=by
 unfold EL at h
 split at h
 ·rename_i he;cases he
 ·rename_i n r' he
  cases he
  obtain⟨q,hq,rfl⟩:=Option.map_eq_some_iff.1 h
  exact⟨n,q,rfl,hq,rfl⟩
 ·cases h
theorem sJ(w:World)(b:Nat): ∀(els:List (List AV)) (vss:List (List Value)) (l:List UInt8) (o:Nat) (acc:ByteArray),AY C els vss→EL els=some l→DY w b o vss.flatten→
  (Extern.Bytes.loadBytes ⟨b,o,none⟩ els.length acc).run P w= .ok ⟨acc.data++l.toArray⟩ w
 |[],_,l,o,acc,_,h,_=>by
  simp only[EL,Option.some.injEq]at h
  subst h
  simp[Extern.Bytes.loadBytes]
 |e::els,vss,l,o,acc,⟨v,q,e1,r1,r2⟩,h,hh=>by
  subst e1
  obtain⟨n,l',rfl,hl,rfl⟩:=rA h
  obtain⟨u,us,e2,ru,e3⟩:=r1
  have e3':us=[]:=e3
  have ru':u= .int .u8 n:=ru
  subst e3';subst e2;subst ru'
  have h0:w.cell? ⟨b,o,none⟩=some (.int .u8 n):=by
   have:=hh 0 (.int .u8 n) (by simp)
   simpa using this
  have hn:(⟨b,o,none⟩:Addr).add 1=⟨b,o+1,none⟩:=rfl
  have ih:=sJ w b els q l' (o+1) (acc.push n.toNat.toUInt8) r2 hl (fun j v hj=>by
   have:=hh (j+1) v (by simpa using hj)
   rw[show o+1+j=o+(j+1) by omega]
   exact this)
  simp only[List.length_cons,Extern.Bytes.loadBytes,Sem.run_bind,run_load,h0,Result.andThen_ok,hn,ih]
  congr 1
  apply ByteArray.ext
  simp[ByteArray.push,Nat.toUInt8]
theorem oX(I:Inv tb C){x:AV}{v:Value}{l:List UInt8}(r:Gc C x v)(h:bT C.H x=some l):(Extern.Bytes.bytesOf v).run P C.w= .ok ⟨l.toArray⟩ C.w:=by
 have slc:(EP C.H 1 x).bind EL=some l→(Extern.Bytes.bytesOf v).run P C.w= .ok ⟨l.toArray⟩ C.w:=by
  intro h
  obtain⟨els,he,hl⟩:=Option.bind_eq_some_iff.1 h
  rcases bI I (by omega) r he with ⟨rfl,e⟩|⟨q,cap,vss,e,hlc,hh,hs,hr⟩
  ·subst e
   simp only[EL,Option.some.injEq]at hl
   subst hl
   rfl
  ·subst e
   by_cases hne:els=[]
   ·subst hne
    simp only[EL,Option.some.injEq]at hl
    subst hl
    rfl
   ·obtain⟨b,base,rfl,hh2⟩:=hh hne
    have:=sJ (P:=P) (C:=C) C.w b els vss l base .empty hr hl hh2
    simp only[Extern.Bytes.bytesOf,this]
    congr 1
    apply ByteArray.ext
    show(#[]:Array UInt8)++l.toArray=l.toArray
    simp
 cases x<;>simp only[bT]at h<;>try exact slc h
 obtain rfl:=Option.some.inj h
 have e:v= .string ⟨_⟩:=r
 subst e
 rfl
end
end Go.Proofs.YtobejhpigbllpaaGreatDoor.Am
namespace Go.Proofs.YtobejhpigbllpaaGreatDoor.Am
def Nk(l:List UInt8)(c:UInt8):Int:=match l.findIdx? (fun x=>x==c)with
 |some i=>(i:Int)
 |none=> -1
def wP:AV→Option UInt8
 | .i .u8 n=>some (UInt8.ofNat n.toNat)
 |_=>none
def dS(f:List UInt8→UInt8→Int):List AV→Ax→Option (AV×Option Ax)
 |[x,y],h=>(wP y).bind fun c=>(bT h x).map fun a=>(.i .i64 (f a c),none)
 |_,_=>none
def Wd:List AV→Ax→Option (AV×Option Ax):=dS Nk
theorem find_range{l:List UInt8}{c:UInt8}:((List.range l.length).find? fun i=>l.toArray[i]! ==c)=l.findIdx? (fun x=>x==c):=by
 have key: ∀(m:List UInt8) (k:Nat),k+m.length=l.length→(∀i,m[i]? =l[k+i]?)→((List.range' k m.length).find? fun i=>l.toArray[i]! ==c)=(m.findIdx? (fun x=>x==c)).map (k+ ·):=by
  intro m
  induction m with
  |nil=>intro k _ _;rfl
  |cons x m ih=>
   intro k hk he
   have h0:l.toArray[k]! =x:=by
    have:=he 0
    simp only[List.getElem?_cons_zero,Nat.add_zero]at this
    simp[←this]
   rw[List.length_cons,List.range'_succ,List.find?_cons,h0,List.findIdx?_cons]
   cases hx:x==c with
   |true=>simp
   |false=>
    simp only[Bool.false_eq_true,if_false]
    rw[ih (k+1) (by simp at hk;omega) (fun i=>by have:=he (i+1);simp only[List.getElem?_cons_succ]at this;rw[this];congr 1;omega)]
    cases m.findIdx? (fun x=>x==c)with
    |none=>rfl
    |some i=>simp;omega
 have:=key l 0 (by simp) (fun i=>by simp)
 rw[List.range_eq_range',this]
 cases l.findIdx? (fun x=>x==c)<;>simp
theorem sK{l:List UInt8}{c:UInt8}:(match(List.range (⟨l.toArray⟩:ByteArray).size).find? fun i=>(⟨l.toArray⟩:ByteArray)[i]! ==c with
  |some i=>goInt i
  |none=>goInt (-1))= .int .i64 (Nk l c):=by
 have h:(List.range (⟨l.toArray⟩:ByteArray).size).find? (fun i=>(⟨l.toArray⟩:ByteArray)[i]! ==c)=l.findIdx? (fun x=>x==c):=by
  rw[←find_range]
  congr 1
  funext i
  congr 1
  by_cases hi:i<l.length
  ·rw[getElem!_pos _ _ (by simpa [ByteArray.size]using hi),getElem!_pos _ _ (by simpa using hi)];rfl
  ·rw[getElem!_neg _ _ (by simpa [ByteArray.size]using hi),getElem!_neg _ _ (by simpa using hi)]
 rw[h]
 unfold Nk
 cases l.findIdx? (fun x=>x==c)<;>rfl
section
variable{P:Program}{tb:Dg}
theorem pN{g:Nat}{f:List UInt8→UInt8→Int}{e:Array Value→Sem Value}(he:lI P g=some e)
  (hf: ∀(v:Value) (n:Int) (l:List UInt8) (w:World),(Extern.Bytes.bytesOf v).run P w= .ok ⟨l.toArray⟩ w→(e #[v, .int .u8 n]).run P w= .ok (.int .i64 (f l (UInt8.ofNat n.toNat))) w):Fs P tb fun g' args h=>if g'=g then dS f args h else none:=by
 intro g' D args vs r I hr h
 dsimp only at h
 split at h
 ·rename_i hg
  subst hg
  unfold dS at h
  split at h
  ·rename_i hh x y
   obtain⟨v,vs',e1,r1,v2,vs2,e2,r2,e3⟩:=hr
   have e3':vs2=[]:=e3
   subst e3';subst e2;subst e1
   obtain⟨c,hc,h⟩:=Option.bind_eq_some_iff.1 h
   obtain⟨a,ha,rfl⟩:=Option.map_eq_some_iff.1 h
   unfold wP at hc
   cases y with
   |i k n=>
    have r2':v2= .int k n:=r2
    subst r2'
    cases k<;>simp only[reduceCtorEq,Option.some.injEq]at hc
    subst hc
    exact .inl (Az I (v:= .int .i64 (f a (UInt8.ofNat n.toNat))) (mW he (hf v n a D.w (oX (P:=P) I r1 ha))) rfl)
   |_=>cases hc
  ·cases h
 ·cases h
theorem VY{g:Nat}(he:lI P g=some Extern.BytealgIndexByte.indexByte):Fs P tb fun g' args h=>if g'=g then Wd args h else none:=
 pN he fun v n l w h=>by
  change Sem.run P (do
   let b←Extern.Bytes.bytesOf v
   let c←Extern.Bytes.asByte (.int .u8 n)
   match(List.range b.size).find? fun i=>b[i]! ==c with
   |some i=>pure (goInt i)
   |none=>pure (goInt (-1))) w=_
  simp only[Sem.run_bind,h,Result.andThen_ok,Extern.Bytes.asByte,Sem.run_pure]
  have:=sK (l:=l) (c:=UInt8.ofNat n.toNat)
  have hc:n.toNat.toUInt8=UInt8.ofNat n.toNat:=rfl
  rw[hc]
  split<;>rename_i hx<;>rw[hx]at this<;>simp only[]at this<;>rw[←this]<;>rfl
end
def Oy:List AV→Ax→Option (AV×Option Ax)
 |[x],_=>some (x,none)
 |_,_=>none
theorem pL{P:Program}{tb:Dg}{g:Nat}(he:lI P g=some Extern.AbiNoEscape.same):Fs P tb fun g' args h=>if g'=g then Oy args h else none:=by
 intro g' D args vs r I hr h
 dsimp only at h
 split at h
 ·rename_i hg
  subst hg
  unfold Oy at h
  split at h
  ·cases h
   obtain⟨v,vs',e1,r1,e3⟩:=hr
   have e3':vs'=[]:=e3
   subst e3';subst e1
   exact .inl (Az I (v:=v) (mW he rfl) r1)
  ·cases h
 ·cases h
end Go.Proofs.YtobejhpigbllpaaGreatDoor.Am
namespace Go.Proofs.YtobejhpigbllpaaGreatDoor.Am
section
variable{tb:Dg}{Γ:Cx}{a b:AO}
inductive cF(tb:Dg)(Γ:Cx):(As:List T)→List AO→CF As→Prop where
 |nil:cF tb Γ [] [] ()
 |one {a:AO} {t:T} {x:t.α} (h:Dd tb Γ a (.val t x)):cF tb Γ [t] [a] x
 |cons {a:AO} {t u:T} {x:t.α} {As:List T} {l:List AO} {y:CF (u::As)} (h:Dd tb Γ a (.val t x)) (k:cF tb Γ (u::As) l y):cF tb Γ (t::u::As) (a::l) (x,y)
theorem cF.spec{E:P4}{rv:Nat→AV}{fp:Fp}{f:Fr}{H:Ax}(R:Bx E Γ rv fp f H): ∀{As:List T} {l:List AO} {x:CF As},cF tb Γ As l x→Uw (Pf E Γ.ss fp H) H As (l.map (eval tb f)) x
 |_,_,_, .nil=>rfl
 |_,_,_, .one h=>⟨_,rfl,h E rv fp f H R⟩
 |_,_,_, .cons h k=>⟨_,_,rfl,h E rv fp f H R,k.spec R⟩
def rQ:(Rs:List T)→CF Rs→List (Σ t:T,t.α)
 |[],_=>[]
 |[a],x=>[⟨a,x⟩]
 |a::b::r,x=>⟨a,x.1⟩::rQ (b::r) x.2
theorem cO{P:Nat→Prop}{H:Ax}: ∀{Rs:List T} {vs:List AV} {x:CF Rs},Uw P H Rs vs x→UX P H vs (rQ Rs x)
 |[],_,_,h=>by rw[show _=[]from h];trivial
 |[a],_,_,⟨v,e,h⟩=>by rw[e];exact⟨h,trivial⟩
 |a::b::r,_,_,⟨v,q,e,h,g⟩=>by rw[e];exact⟨h,cO g⟩
def sX:(Rs:List T)→CF Rs→AL
 |[a],x=> .val a x
 |Rs,x=> .tup (rQ Rs x)
theorem We{rv:Nat→AV}{ss:Ss}{P:Nat→Prop}{H:Ax}{v:AV}: ∀{Rs:List T} {x:CF Rs},OutR P H Rs v x→FR rv ss P H (sX Rs x) v
 |[],_,⟨vs,e,h⟩=>by rw[e,show vs=[]from h];exact⟨[],rfl,trivial⟩
 |[a],_,⟨vs,e,v,e',h⟩=>by rw[e,e'];exact h
 |a::b::r,_,⟨vs,e,h⟩=>by
  have hh:=h
  obtain⟨v1,q,e1,h1,h2⟩:=h
  have: ∃v2 q2,q=v2::q2:=by
   cases r with
   |nil=>obtain⟨v2,e2,_⟩:=h2;exact⟨v2,[],e2⟩
   |cons c r=>obtain⟨v2,q2,e2,_⟩:=h2;exact⟨v2,q2,e2⟩
  obtain⟨v2,q2,e2⟩:=this
  refine⟨vs,?_,cO hh⟩
  rw[e,e1,e2];rfl
theorem vN{g:Nat}{As Rs:List T}{F:CF As→Option (CF Rs)}{l:List AO}{x:CF As}(sp:Spec tb g As Rs F)(hx:cF tb Γ As l x):Gd tb Γ (.call g l) (F x) fun r=>sX Rs r:=by
 intro E rv fp f H R r hr
 obtain⟨v,u,h1,h2,h3⟩:=(sp (Pf E Γ.ss fp H) H _ x R.ltP R.wf (hx.spec R) r hr).call
 exact⟨v,u,by simp only[Bz];exact h1,h2,We h3⟩
theorem AD{g:Nat}{As:List T}{t:T}{F:CF As→Option (CF [t])}{l:List AO}{x:CF As}(sp:Spec tb g As [t] F)(hx:cF tb Γ As l x):Gd tb Γ (.call g l) (F x) fun r:t.α=> .val t r:=vN sp hx
theorem Cd{g:Nat}{As:List T}{t u:T}{Rs:List T}{F:CF As→Option (CF (t::u::Rs))}{l:List AO}{x:CF As}(sp:Spec tb g As (t::u::Rs) F)(hx:cF tb Γ As l x):Gd tb Γ (.call g l) (F x) fun r=> .tup (rQ (t::u::Rs) r):=vN sp hx
theorem Bs{l:List (Σ t:T,t.α)}{i:Nat}{t:T}{x:t.α}(ha:Dd tb Γ a (.tup l))(h:l[i]? =some ⟨t,x⟩):Gd tb Γ (.ext a i) (some ()) fun _=> .val t x:=by
 rintro E rv fp f H R _ ⟨⟩
 obtain⟨vs,e,hv⟩:=ha E rv fp f H R
 have: ∀{vs:List AV} {l:List (Σ t:T,t.α)} {i:Nat} {p: Σ t:T,t.α},UX (Pf E Γ.ss fp H) H vs l→l[i]? =some p→ ∃v,vs[i]? =some v∧p.1.V (Pf E Γ.ss fp H) H v p.2:=by
  intro vs
  induction vs with
  |nil=>intro l i p h e;cases l with|nil=>simp at e|cons=>exact h.elim
  |cons v vs ih=>
   intro l i p h e
   cases l with
   |nil=>exact h.elim
   |cons q l=>
    cases i with
    |zero=>simp only[List.getElem?_cons_zero,Option.some.injEq]at e;subst e;exact⟨v,rfl,h.1⟩
    |succ i=>simp only[List.getElem?_cons_succ]at e;obtain⟨w,h1,h2⟩:=ih h.2 e;exact⟨w,by simpa using h1,h2⟩
 obtain⟨v,h1,h2⟩:=this hv h
 exact⟨v,none,by simp only[Bz,e,h1,val,Option.map_some],rfl,h2⟩
end
structure F1(t:T)(l:List CK) where
 d:(x y:t.α)→Decidable (x=y)
 h: ∀{P Q:Nat→Prop} {H G:Ax} {c c':List AV} {x y:t.α},t.R P H c x→t.R Q G c' y→Nm l c c'=some (@decide (x=y) (d x y))
theorem nQ{l m:List CK}: ∀{c d c' d':List AV} {p q:Bool},Nm l c c'=some p→Nm m d d'=some q→Nm (l++m) (c++d) (c'++d')=some (p&&q):=by
 induction l with
 |nil=>
  intro c d c' d' p q h g
  match c,c',h with
  |[],[],h=>simp only[Nm,Option.some.injEq]at h;subst h;simpa using g
 |cons k l ih=>
  intro c d c' d' p q h g
  match c,c',h with
  |[],[],h=>simp[Nm]at h
  |[],_::_,h=>simp[Nm]at h
  |_::_,[],h=>simp[Nm]at h
  |x::c,y::c',h=>
   simp only[Nm]at h
   obtain⟨e,he,h⟩:=Option.bind_eq_some_iff.1 h
   obtain⟨e',he',rfl⟩:=Option.map_eq_some_iff.1 h
   simp only[List.cons_append,Nm,he,Option.bind_some,ih he' g,Option.map_some,Bool.and_assoc]
theorem oE{p q:Prop}{d:Decidable p}{e:Decidable q}(h:p↔q): @decide p d= @decide q e:=by
 rw[Bool.eq_iff_iff];simp only[decide_eq_true_eq];exact h
theorem dec_of{p:Prop}{d:Decidable p}{q:Bool}(h:q=true↔p):q= @decide p d:=by
 rw[Bool.eq_iff_iff];simp only[decide_eq_true_eq];exact h
def cD{α:Type}{c:α→AV}{z:α}{hs: ∀x,scal (c x)=true}{hm: ∀x,BS (c x)=0}(k:CK)(d:(x y:α)→Decidable (x=y))(h: ∀x y,rP k (c x) (c y)=some (@decide (x=y) (d x y))):F1 (S2 α c z hs hm) [k]:=
 ⟨d,fun{P Q H G c' d' x y} h1 h2=>by
  rw[show c'=_ from h1,show d'=_ from h2]
  show(rP k (c x) (c y)).bind (fun a=>(some true).map fun b=>a&&b)=_
  rw[h x y]
  simp only[Option.bind_some,Option.map_some,Bool.and_true]
  rfl⟩
def F1.b:F1 T.b [.b]:=cD .b (fun x y=>inferInstance) fun x y=>by cases x<;>cases y<;>rfl
def F1.int(k:IntKind):F1 (T.int k) [.i k]:=cD (.i k) (fun x y=>inferInstance) fun x y=>by simp only[rP,and_self,if_true];rfl
theorem eq_nat{x y:Nat}:((x:Int)==(y:Int))=decide (x=y):=by
 rw[Bool.eq_iff_iff];simp only[beq_iff_eq,decide_eq_true_eq];omega
def F1.u8:F1 T.u8 [.i .u8]:=cD (.i .u8) (fun x y=>inferInstance) fun x y=>by
 simp only[rP,and_self,if_true,eq_nat];congr 1;exact oE UInt8.toNat_inj
def Zt{s t:T}{l m:List CK}(p:F1 s l)(q:F1 t m):F1 (Hx s t) (l++m):=
 ⟨fun x y=> @decidable_of_iff _ (x.1=y.1∧x.2=y.2) ⟨fun h=>Prod.ext h.1 h.2,fun h=>by rw[h];exact⟨rfl,rfl⟩⟩ (have:=p.d x.1 y.1;have:=q.d x.2 y.2;inferInstance),fun{P Q H G c c' x y} ⟨c1,d1,e1,h1,g1⟩ ⟨c2,d2,e2,h2,g2⟩=>by
  rw[e1,e2,nQ (p.h h1 h2) (q.h g1 g2)]
  congr 1
  rw[Bool.eq_iff_iff]
  simp only[Bool.and_eq_true,decide_eq_true_eq]
  exact⟨fun h=>Prod.ext h.1 h.2,fun h=>by rw[h];exact⟨rfl,rfl⟩⟩⟩
def iT{t:T}{l:List CK}{β:Type}{f:β→t.α}{g:t.α→β}{hfg: ∀y,f (g y)=y}(p:F1 t l)(d:(x y:β)→Decidable (x=y))(hi: ∀x y,f x=f y→x=y):F1 (Xo t β f g hfg) l:=
 ⟨d,fun{P Q H G c c' x y} h1 h2=>by
  have:=p.h (x:=f x) (y:=f y) h1 h2
  rw[this]
  congr 1
  exact oE ⟨hi x y,fun h=>by rw[h]⟩⟩
def zF(l:List CK):Nat→List CK
 |0=>[]
 |n+1=>l++zF l n
theorem F1.all{t:T}{l:List CK}(p:F1 t l){P Q:Nat→Prop}{H G:Ax}: ∀{c c':List (List AV)} {x y:List t.α},x.length=y.length→Do t P H c x→Do t Q G c' y→ ∃q,Nm (zF l x.length) c.flatten c'.flatten=some q∧(q=true↔x=y):=by
 intro c
 induction c with
 |nil=>
  intro c' x y hl h1 h2
  match x,h1 with
  |[],_=>
   match c',y,h2,hl with
   |[],[],_,_=>exact⟨true,rfl,by simp⟩
   |_::_,_::_,_,hl=>simp at hl
 |cons a c ih=>
  intro c' x y hl h1 h2
  match x,h1 with
  |u::x,h1=>
   match c',y,h2 with
   |[],[],_=>simp at hl
   |a'::c',v::y,h2=>
    obtain⟨q,e,hq⟩:=ih (by simpa using hl) h1.2 h2.2
    refine⟨_,by rw[List.length_cons,zF,List.flatten_cons,List.flatten_cons];exact nQ (p.h h1.1 h2.1) e,?_⟩
    simp only[Bool.and_eq_true,decide_eq_true_eq,hq,List.cons.injEq]
def F1.arr{t:T}{l:List CK}(n:Nat)(p:F1 t l):F1 (T.arr n t) (zF l n):=
 ⟨fun(x y:Ar t.α n)=> @decidable_of_iff _ (x.l=y.l) ⟨fun h=>Ar.ext h,fun h=>by rw[h]⟩ (have:DecidableEq t.α:=p.d;inferInstance),fun{P Q H G c c' x y} ⟨cs,e,h⟩ ⟨ds,e',h'⟩=>by
  obtain⟨q,hq,hi⟩:=p.all (x.len.trans y.len.symm) h h'
  rw[x.len]at hq
  rw[e,e',hq]
  congr 1
  exact dec_of (hi.trans ⟨fun h=>Ar.ext h,fun h=>by rw[h]⟩)⟩
section
variable{tb:Dg}{Γ:Cx}{a b:AO}
theorem vL{t:T}{l l':List CK}{x y:t.α}{neg:Bool}(p:F1 t l)(ht:t.agg=true)(hl:l'=l)(ha:Dd tb Γ a (.val t x))(hb:Dd tb Γ b (.val t y)):Gd tb Γ (.eq neg (.agg l') a b) (some (if neg then !(@decide (x=y) (p.d x y))else @decide (x=y) (p.d x y))) fun z=> .val T.b z:=by
 rintro E rv fp f H R z ⟨⟩
 subst hl
 rcases ha E rv fp f H R with ⟨_,c,e,r⟩|⟨e,_⟩
 ·rcases hb E rv fp f H R with ⟨_,c',e',r'⟩|⟨e',_⟩
  ·exact⟨_,none,by simp only[Bz,e,e',bF,p.h r r',Option.map_some,val],rfl,Fz.2 rfl⟩
  ·rw[ht]at e';cases e'
 ·rw[ht]at e;cases e
theorem h_eqb{x y:Bool}{neg:Bool}(ha:Dd tb Γ a (.val T.b x))(hb:Dd tb Γ b (.val T.b y)):Gd tb Γ (.eq neg (.one .b) a b) (some (if neg then !decide (x=y)else decide (x=y))) fun z=> .val T.b z:=by
 rintro E rv fp f H R z ⟨⟩
 have h:rP .b (.b x) (.b y)=some (decide (x=y)):=by cases x<;>cases y<;>rfl
 exact⟨_,none,by simp only[Bz,Fz.1 (ha E rv fp f H R),Fz.1 (hb E rv fp f H R),bF,h,Option.map_some,val],rfl,Fz.2 rfl⟩
theorem GD{s t:T}{x:s.α}{y:t.α}{n j o o' m k N:Nat}{ps:List (Nat×AL)}(F:AZ s (T.arr n t) o')(hk:k=t.sz)(ha:Dd tb Γ a (.cp j (o+m*t.sz)))(hb:Dd tb Γ b (.val t y))(hj:AG Γ.ss j=some (.cells ps))(hp:KF ps o=some (N, .val s x,o')):
  Xs tb Γ none (.st k a b) (if m<n then some (F.put x ((F.get x).set m y))else none) fun x'=>Γ.setS j (.cells (UE ps o (.val s x'))):=by
 intro E rv fp f H R x' hx'
 split at hx'
 ·rename_i hlt
  cases hx'
  obtain⟨l,id,e,hv⟩:=ha E rv fp f H R
  obtain⟨cs,h0,h2,h3⟩:=Hh R hj e
  obtain⟨b',c,e0,e1,e2,e3,e4,e5,e6⟩:=GO h3 hp
  let G:=J4 F (AZ.at n t m hlt)
  have hle:=G.le
  have hl:=s.len e4
  have hy:=T.V.cells (hb E rv fp f H R)
  have hyl:=t.len hy
  have hput:=G.putR e4 hy
  have hpr:=e6 (o'+m*t.sz) (cellsOf (eval tb f b)) (.val s (G.put x y)) (by omega) hput
  rw[show b'+(o'+m*t.sz)=o+m*t.sz by omega]at hpr
  have hmen:=PR.men R.ltP R.rvlt h3
  have hym:=t.men hy R.ltP
  subst hk
  have hlt':=(R.fplt j id l ((h0 id).2 rfl)).1
  obtain⟨rv',fp',_,_,R'⟩:=R.set (j:=j) (S:= .cells (UE ps o (.val s (G.put x y)))) (v:=rv j) (o:= .cells (E5 H id) (B2 cs (o+m*t.sz) (cellsOf (eval tb f b)))) (by rw[hj];rfl) l h0 (by simp only[ED];exact NC hmen hym) rfl (R.rvlt j l) (.inl rfl) (R.scal j l) fun rv' fp' e1 e2 hP hs=>
   ⟨id,_,by rw[e1,e],e2,by simp[Cq,hlt'],PR.mono hP (by simp) (fun p _=>hs p.2 (.inl rfl)) hpr⟩
  refine⟨.junk,some (H.set id (BW.cells (E5 H id) (B2 cs (o+m*t.sz) (cellsOf (eval tb f b))))),?_,rv',fp',R'⟩
  simp only[Bz,hv,store,h2,Option.bind_some]
  rw[if_pos ⟨hyl,by omega⟩]
  rfl
 ·cases hx'
theorem Cs{s t:T}{x:s.α}{n j o o' N m:Nat}{ag:Bool}{ps:List (Nat×AL)}(h:BI Γ.ts n=some (.cp j o))(hj:AG Γ.ss j=some (.cells ps))(hp:KF ps o=some (N, .val s x,o'))(F:AZ s t o')(hag:ag=t.agg)(hm:m=t.sz):xB Γ (.cell ag m n) t (F.get x):=by
 intro E rv fp f H R r vs hr
 obtain⟨v,u,h1,_,h3⟩:=AE (tb:=⟨fun _=>none,fun _=>none,fun _=>none,[]⟩) (Ag h) hj hp F hag hm E rv fp f H R () rfl
 refine⟨v,?_,h3⟩
 simp only[Bz,eval,val]at h1
 obtain⟨w,hw,e⟩:=Option.map_eq_some_iff.1 h1
 cases e
 simp only[results,hw,Option.bind_some,hr,Option.map_some]
theorem Ux{t:T}{zero:List (List AV)}{d t0 sz n:Nat}{ps:List (Nat×AO)}{l:List t.α}(j:Nat)(hs:sz=t.sz)(hz:zero=List.replicate n t.zc)(h:mM tb Γ t ps (List.replicate n t.z) l)(hj:AG Γ.ss j=none):
  Xs tb Γ (some d) (.bls t0 sz zero ps) (some l) fun l=>⟨(d, .own j)::Γ.ts,(j, .row t (.mk l))::Γ.ss⟩:=by
 intro E rv fp f H R l' hl'
 cases hl'
 subst hz hs
 obtain⟨ds,h1,h2⟩:=h.spec R (Do.rep (t.hz _ _) n)
 have hm:=h2.men R.ltP
 obtain⟨rv',fp',g1,g2,g3⟩:=R.more (j:=j) (S:= .row t (.mk l)) (v:= .orow H.length ds.length 0 ds.length) (o:= .row (some t0) false t.sz ds) (HY hj) (by simp only[ED];omega) rfl (by simp[BS]) rfl fun rv' fp' e1 e2 hP hs=>
  ⟨_,ds,e1,e2,by simp[rowAt],h2.mono hP⟩
 exact⟨.orow H.length ds.length 0 ds.length,some (H++[BW.row (some t0) false t.sz ds]),by simp only[Bz,h1,Option.map_some],rv',fp',g3.push (φ:= .own j) ⟨g2,g1.symm⟩⟩
end
def look{α:Type}(n:Nat):List (Nat×α)→Option α
 |[]=>none
 |(k,v)::r=>if Nat.beq n k then some v else look n r
theorem Pa{α:Type}{n:Nat}{v:α}: ∀{l:List (Nat×α)},look n l=some v→(n,v)∈l
 |[],h=>by simp[look]at h
 |(k,u)::r,h=>by
  simp only[look]at h
  split at h
  ·rename_i e
   obtain rfl:=Option.some.inj h
   obtain rfl:=Nat.eq_of_beq_eq_true e
   exact List.mem_cons_self
  ·exact List.mem_cons_of_mem _ (Pa h)
theorem mG{tb:Dg}{g:Nat}{f:List UInt8→UInt8→Int}(hp:tb.prim g=some (dS f)):Spec tb g [Ak,T.u8] [T.int .i64] fun a=>some (f a.1 a.2):=by
 rintro P h args ⟨x,y⟩ _ _ ⟨v,q,rfl,h1,w,rfl,h2⟩ r hr
 cases hr
 refine⟨_,none,?_,rfl,[.i .i64 (f x y)],rfl,_,rfl,Cr.2 rfl⟩
 have hy: ∀z:UInt8,UInt8.ofNat ((z.toNat:Int)).toNat=z:=fun z=>by simp
 rw[E2.1 h1,TC.1 h2]
 simp only[B6,hp,dS,wP,bT,Option.bind_some]
 show some (AV.i .i64 (f x (UInt8.ofNat ((UInt8.toNat y:Nat):Int).toNat)),none)=_
 exact congrArg (fun c:UInt8=>(some (AV.i .i64 (f (show AR from x) c),(none:Option Ax)))) (hy (show UInt8 from y))
end Go.Proofs.YtobejhpigbllpaaGreatDoor.Am
namespace Go.Proofs.YtobejhpigbllpaaGreatDoor.Am
section
variable{tb:Dg}{Γ:Cx}{a b:AO}
theorem Bv{j o:Nat}(ha:Dd tb Γ a (.cp j o)):Gd tb Γ (.nilc a) (some ()) fun _=> .cp j o:=by
 rintro E rv fp f H R z ⟨⟩
 obtain⟨l,id,e,hv⟩:=ha E rv fp f H R
 exact⟨.ptr id o,none,by simp only[Bz,hv],rfl,l,id,e,rfl⟩
def T.Flat(t:T):Prop:= ∀{P Q:Nat→Prop} {H G:Ax} {cs:List AV} {x:t.α},t.R P H cs x→t.R Q G cs x
theorem vX{k:IntKind}:(T.int k).Flat:=fun h=>h
theorem vW:T.u64.Flat:=fun h=>h
theorem Pp:Ak.Flat:=fun h=>h
theorem T.Flat.V{t:T}(h:t.Flat){P Q:Nat→Prop}{H G:Ax}{v:AV}{x:t.α}(r:t.V P H v x):t.V Q G v x:=by
 rcases r with ⟨a,cs,e,r⟩|⟨a,r⟩
 ·exact .inl ⟨a,cs,e,h r⟩
 ·exact .inr ⟨a,h r⟩
inductive Uy:List T→Prop where
 |nil:Uy []
 |cons {t:T} {l:List T}:t.Flat→Uy l→Uy (t::l)
theorem Uw.flat{P Q:Nat→Prop}{H G:Ax}: ∀{l:List T} {vs:List AV} {x:CF l},Uy l→Uw P H l vs x→Uw Q G l vs x
 |[],_,_,_,h=>h
 |[a],_,_, .cons k _,⟨v,e,h⟩=>⟨v,e,k.V h⟩
 |_::_::_,_,_, .cons k l,⟨v,q,e,h,g⟩=>⟨v,q,e,k.V h,Uw.flat l g⟩
def ArgP(tb:Dg)(Γ:Cx)(a:AO)(t:T)(x:t.α):Prop:= ∀E rv fp f H,Bx E Γ rv fp f H→t.V (fun i=>i<H.length) H (eval tb f a) x
theorem a_v{t:T}{x:t.α}(h:Dd tb Γ a (.val t x)):ArgP tb Γ a t x:=fun E rv fp f H R=>T.V.mono (fun i hi=>⟨Pf.lt R.le hi,rfl⟩) (h E rv fp f H R)
inductive cE(tb:Dg)(Γ:Cx):(As:List T)→List AO→CF As→Prop where
 |one {a:AO} {t:T} {x:t.α} (h:ArgP tb Γ a t x):cE tb Γ [t] [a] x
 |cons {a:AO} {t u:T} {x:t.α} {As:List T} {l:List AO} {y:CF (u::As)} (h:ArgP tb Γ a t x) (k:cE tb Γ (u::As) l y):cE tb Γ (t::u::As) (a::l) (x,y)
theorem cE.spec{E:P4}{rv:Nat→AV}{fp:Fp}{f:Fr}{H:Ax}(R:Bx E Γ rv fp f H): ∀{As:List T} {l:List AO} {x:CF As},cE tb Γ As l x→Uw (fun i=>i<H.length) H As (l.map (eval tb f)) x
 |_,_,_, .one h=>⟨_,rfl,h E rv fp f H R⟩
 |_,_,_, .cons h k=>⟨_,_,rfl,h E rv fp f H R,k.spec R⟩
theorem Aa8{g:Nat}{As Rs:List T}{F:CF As→Option (CF Rs)}{l:List AO}{x:CF As}(sp:Spec tb g As Rs F)(fl:Uy Rs)(hx:cE tb Γ As l x):Gd tb Γ (.call g l) (F x) fun r=>sX Rs r:=by
 intro E rv fp f H R r hr
 obtain⟨v,u,h1,h2,vs,h3,h4⟩:=(sp (fun i=>i<H.length) H _ x (fun _ h=>h) R.wf (hx.spec R) r hr).call
 exact⟨v,u,by simp only[Bz];exact h1,h2,We ⟨vs,h3,h4.flat fl⟩⟩
end
end Go.Proofs.YtobejhpigbllpaaGreatDoor.Am
namespace Go.Proofs.YtobejhpigbllpaaGreatDoor.Am
def Zs:Dom where
 α:=AR×Nat
 R:=fun F _ H v x=> ∃id,v= .ptr id 0∧(∀i,F i↔i=id)∧H[id]? =some (.iter x.1 x.2)
 lt:=fun⟨id,_,hF,h⟩ i hi=>by rw[(hF i).1 hi];exact(List.getElem?_eq_some_iff.1 h).1
 men:=fun⟨id,e,hF,_⟩ _ hm=>by rw[e];simp only[BS];exact hm id ((hF id).2 rfl)
 mono:=fun _ g ⟨id,e,hF,h⟩=>⟨id,e,hF,by rw[g id ((hF id).2 rfl)];exact h⟩
def Ht(s:AR)(pos:Nat):Int×Nat:=((Utf8.decode ⟨s.toArray⟩ pos).1,(Utf8.decode ⟨s.toArray⟩ pos).2)
section
variable{tb:Dg}{Γ:Cx}{a b:AO}
theorem o_n8{x:UInt8}(h:Dd tb Γ a (.val T.u8 x)):Dd tb Γ a (.val (T.int .u8) (x.toNat:Int)):=fun E rv fp f H R=>Cr.2 (TC.1 (h E rv fp f H R))
theorem o_n16{x:UInt16}(h:Dd tb Γ a (.val T.u16 x)):Dd tb Γ a (.val (T.int .u16) (x.toNat:Int)):=fun E rv fp f H R=>Cr.2 (bZ.1 (h E rv fp f H R))
theorem Mm{x:UInt32}(h:Dd tb Γ a (.val T.u32 x)):Dd tb Γ a (.val (T.int .u32) (x.toNat:Int)):=fun E rv fp f H R=>Cr.2 (bY.1 (h E rv fp f H R))
theorem M_rng{s:AR}{d:Nat}(j:Nat)(hj:AG Γ.ss j=none)(ha:Dd tb Γ a (.val Ak s)):Xs tb Γ (some d) (.rng a) (some ()) fun _=>⟨(d, .own j)::Γ.ts,(j, .dom Zs (s,0))::Γ.ss⟩:=by
 rintro E rv fp f H R _ ⟨⟩
 obtain⟨rv',fp',h1,h2,h3⟩:=R.more (j:=j) (S:= .dom Zs (s,0)) (v:= .ptr H.length 0) (o:= .iter s 0) (HY hj) (by simp[ED]) rfl (by simp[BS]) rfl fun rv' fp' e1 e2 hP hs=>
  ⟨_,e1,e2,by simp⟩
 refine⟨.ptr H.length 0,some (H++[BW.iter s 0]),by simp only[Bz,E2.1 (ha E rv fp f H R)],rv',fp',h3.push (d:=d) (φ:= .own j) ⟨h2,h1.symm⟩⟩
variable{ks:List Kf}{ρ:Type}{Q:MR ρ}
def Aa.nxt{s:AR}{pos j d:Nat}{rest:List Bl}(ha:Dd tb Γ a (.own j))(hj:AG Γ.ss j=some (.dom Zs (s,pos)))
  (k1:(x:Int×Nat)→Aa tb ⟨(d, .tup [⟨T.b,true⟩,⟨T.int .i64,((pos:Nat):Int)⟩,⟨T.int .i32,x.1⟩])::Γ.ts,(j, .dom Zs (s,pos+x.2))::Γ.ss⟩ (rg false rest) ks Q)
  (k2:Aa tb ⟨(d, .tup [⟨T.b,false⟩])::Γ.ts,Γ.ss⟩ (rg false rest) ks Q):Aa tb Γ (rg false (⟨some d,none, .nxt a⟩::rest)) ks Q:=
 ⟨if pos<s.length then(k1 (Ht s pos)).m else k2.m,fun E f H ⟨rv,fp,I⟩ r hr=>by
  have hl:Bi Γ.ss j:=NH hj rfl
  obtain⟨_,hv⟩:=ha E rv fp f H I
  obtain⟨id,e,hF,hH⟩:=I.slots j _ hj
  rw[e]at hv
  have hi:W5 H id=some (s,pos):=by simp only[W5,hH]
  split at hr
  ·rename_i hp
   obtain⟨rv',fp',h1,h2,h3⟩:=I.set (j:=j) (S:= .dom Zs (s,pos+(Ht s pos).2)) (v:=rv j) (o:= .iter s (pos+(Ht s pos).2)) (by rw[hj];rfl) hl hF (by simp[ED]) rfl (I.rvlt j hl) (.inl rfl) (I.scal j hl)
    fun rv' fp' e1 e2 hP _=>⟨id,by rw[e1,e],e2,by rw[List.getElem?_set_self (I.fplt j id hl ((hF id).2 rfl)).1]⟩
   have hx:Bz tb (C1 tb) (eval tb f) H (.nxt a)=some (.tup [.b true, .i .i64 pos, .i .i32 (Ht s pos).1],some (H.set id (BW.iter s (pos+(Ht s pos).2)))):=by
    simp only[Bz,hv,hi,Option.bind_some,if_true,if_pos hp];rfl
   obtain⟨e',f',H',h4,h5⟩:=(k1 (Ht s pos)).ok E _ _ ⟨rv',fp',h3.push (d:=d) (φ:= .tup [⟨T.b,true⟩,⟨T.int .i64,((pos:Nat):Int)⟩,⟨T.int .i32,(Ht s pos).1⟩])
    ⟨[.b true, .i .i64 pos, .i .i32 (Ht s pos).1],rfl,Fz.2 rfl,Cr.2 rfl,Cr.2 rfl,trivial⟩⟩ r hr
   exact⟨e',f',H',by rw[Ki hx];exact h4,h5⟩
  ·rename_i hp
   have hx:Bz tb (C1 tb) (eval tb f) H (.nxt a)=some (.tup [.b false],none):=by
    simp only[Bz,hv,hi,Option.bind_some,if_true,if_neg hp]
   obtain⟨e',f',H',h4,h5⟩:=k2.ok E _ H ⟨rv,fp,I.push (d:=d) (φ:= .tup [⟨T.b,false⟩]) ⟨[.b false],rfl,Fz.2 rfl,trivial⟩⟩ r hr
   exact⟨e',f',H',by rw[Ki hx];exact h4,h5⟩⟩
def B7{x y:AC}(h:Dd tb Γ a (.val T.b true))(s:Aa tb Γ x ks Q):Aa tb Γ (.cond a x y) ks Q:=
 ⟨s.m,fun E f H ⟨rv,fp,I⟩ r hr=>by
  have hv:=Fz.1 (h E rv fp f H I)
  obtain⟨e,f',H',h4,h5⟩:=s.ok E f H ⟨rv,fp,I⟩ r hr
  exact⟨e,f',H',by simp only[Bc,hv,if_true];exact h4,h5⟩⟩
def C9{x y:AC}(h:Dd tb Γ a (.val T.b false))(s:Aa tb Γ y ks Q):Aa tb Γ (.cond a x y) ks Q:=
 ⟨s.m,fun E f H ⟨rv,fp,I⟩ r hr=>by
  have hv:=Fz.1 (h E rv fp f H I)
  obtain⟨e,f',H',h4,h5⟩:=s.ok E f H ⟨rv,fp,I⟩ r hr
  exact⟨e,f',H',by simp only[Bc,hv,Bool.false_eq_true,if_false];exact h4,h5⟩⟩
end
end Go.Proofs.YtobejhpigbllpaaGreatDoor.Am
namespace Go.Proofs.YtobejhpigbllpaaGreatDoor.Am
def PX:Im→Bool
 | .mv _=>true
 | .pick _ _ _=>true
 | .bld _ _=>true
 | .bll _ _ _=>true
 | .fa _ _=>true
 | .nilc _=>true
 | .bin _ _ _=>true
 | .eq _ _ _ _=>true
 | .un _ _=>true
 | .cvi _ _=>true
 | .cvid _=>true
 | .cvc _=>true
 | .mkf _ _ _=>true
 | .sls _ _ _=>true
 | .fld _ _ _ _=>true
 | .iaa _ _ _ _=>true
 | .ixa _ _ _ _ _=>true
 | .ixs _ _=>true
 | .ext _ _=>true
 | .mkif _ _=>true
 | .len _=>true
 | .lens _=>true
 | .mnx _ _ _=>true
 | .isni _ _=>true
 | .capn _=>true
 |_=>false
structure Xv where
 ag:Bool
 n:Nat
 t:Nat
 v:AV
 c:Nat
def Pn(d:Option Nat):List Xv→Bool
 |[]=>true
 |m::r=>(match d with|some d=> !Nat.beq d m.t|none=>true)&&Pn d r
def bK:List Xv→List Xv
 |[]=>[]
 |m::r=>match m.c with
  |0=>bK r
  |1=>bK r
  |c+2=>{m with c:=c+1}::bK r
def OU(N k lo hi:Nat)(o:Im):Bool:=(Nat.beq lo k&&Nat.beq hi k)||(PX o&&Nat.ble hi N)
def iJ(N k lo hi:Nat)(o:Im)(v:AV)(ms:List Xv):List Xv:=
 bif OU N k lo hi o then ms else match o with
  | .ld ag n (.t t)=>⟨ag,n,t,v,hi-k⟩::ms
  |_=>ms
def eJ(N k lo hi:Nat)(d:Option Nat):Im→Bool
 | .ld _ _ (.t t)=>Nat.beq lo k&&Nat.ble hi N&&(match d with|some d=> !Nat.beq d t|none=>true)
 |_=>false
structure Eob where
 ag:Bool
 n:Nat
 a:AV
 v:AV
 lo:Nat
def LZ(tb:Dg)(cl:Nat→List AV→Ax→Lb)(N:Nat):Nat→List Xv→List Eob→List Bl→List (Option (Nat×Nat))→Fr→Ax→Fr×Ax→Prop
 |k,_,_,[],[],f,h,p=>k=N∧p=(f,h)
 |k,ms,es,⟨d,g,o⟩::l,none::w,f,h,p=>(wanted f g=some true∧ ∃q es',Bz tb cl (eval tb f) h o=some q∧Pn d ms=true∧
   (∀m∈ms,0<m.c→Bz tb cl (eval tb (put f d q.1)) (q.2.getD h) (.ld m.ag m.n (.t m.t))=some (m.v,none))∧
   (∀e∈es',(e∈es∨e.lo=k)∧load h e.ag e.n e.a=some e.v)∧LZ tb cl N (k+1) (bK ms) es' l w (put f d q.1) (q.2.getD h) p)∨
   (wanted f g=some false∧ms=[]∧LZ tb cl N (k+1) [] [] l w (put f d (.tup [])) h p)
 |k,ms,es,⟨d,g,o⟩::l,some (lo,hi)::w,f,h,p=>(wanted f g=some true∧ ∃q,Bz tb cl (eval tb f) h o=some q∧q.2.getD h=h∧Pn d ms=true∧
   (((OU N k lo hi o||eJ N k lo hi d o)=true∧LZ tb cl N k (iJ N k lo hi o q.1 ms) es l w (put f d q.1) h p)∨
    (hi=k∧(∃e∈es,∃t,o= .ld e.ag e.n (.t t)∧get f t=e.a∧q.1=e.v∧e.lo≤lo)∧LZ tb cl N k ms es l w (put f d q.1) h p)))∨
   (wanted f g=some false∧Pn d ms=true∧LZ tb cl N k ms es l w (put f d (.tup [])) h p)
 |_,_,_,_,_,_,_,_=>False
section
variable{tb:Dg}{cl:Nat→List AV→Ax→Lb}
theorem rD{o:Im}(ho:PX o=true){rho:AO→AV}{h h':Ax}:Bz tb cl rho h o=Bz tb cl rho h' o:=by
 cases o<;>first|(simp only[PX,Bool.false_eq_true]at ho;done)|rfl
theorem GW{x:Option AV}{p:AV×Option Ax}(e:val x=some p):p.2=none:=by
 obtain⟨v,_,rfl⟩:=Option.map_eq_some_iff.1 e;rfl
theorem map_none{α:Type}{x:Option α}{f:α→AV}{p:AV×Option Ax}(e:x.map (fun a=>(f a,(none:Option Ax)))=some p):p.2=none:=by
 obtain⟨v,_,rfl⟩:=Option.map_eq_some_iff.1 e;rfl
theorem bind_none{α:Type}{x:Option α}{f:α→Lb}{p:AV×Option Ax}(h: ∀a,f a=some p→p.2=none)(e:x.bind f=some p):p.2=none:=by
 obtain⟨v,_,e⟩:=Option.bind_eq_some_iff.1 e;exact h v e
theorem wV{o:Im}(ho:PX o=true){rho:AO→AV}{h:Ax}{p:AV×Option Ax}(e:Bz tb cl rho h o=some p):p.2=none:=by
 cases o<;>first|(simp only[PX,Bool.false_eq_true]at ho;done)|skip
 case mv=>simp only[Bz,Option.some.injEq]at e;subst e;rfl
 case pick=>simp only[Bz]at e;split at e<;>first|(cases e;rfl)|cases e
 case bld=>exact GW e
 case bll=>exact GW e
 case nilc=>simp only[Bz]at e;split at e<;>first|(cases e;rfl)|cases e
 case bin=>exact GW e
 case eq=>exact GW e
 case un=>exact GW e
 case cvi=>simp only[Bz]at e;split at e<;>first|(cases e;rfl)|cases e
 case cvid=>simp only[Bz]at e;split at e<;>first|(cases e;rfl)|cases e
 case cvc=>simp only[Bz]at e;split at e<;>first|(cases e;rfl)|cases e
 case mkf=>simp only[Bz,Option.some.injEq]at e;subst e;rfl
 case sls=>simp only[Bz]at e;split at e<;>first|exact map_none e|cases e
 case fa=>exact GW e
 case fld=>simp only[Bz]at e;split at e<;>first|cases e|(split at e<;>first|exact GW e|cases e)
 case iaa=>exact bind_none (fun a e=>by split at e<;>first|exact GW e|cases e) e
 case ixa=>exact bind_none (fun a e=>by split at e<;>first|cases e|(split at e<;>first|exact GW e|cases e)) e
 case ixs=>exact bind_none (fun a e=>by split at e<;>first|cases e|(split at e<;>first|exact map_none e|cases e)) e
 case ext=>simp only[Bz]at e;split at e<;>first|exact GW e|cases e
 case mkif=>simp only[Bz,Option.some.injEq]at e;subst e;rfl
 case len=>exact map_none e
 case lens=>simp only[Bz]at e;split at e<;>first|(cases e;rfl)|cases e
 case isni=>simp only[Bz]at e;split at e<;>first|(cases e;rfl)|cases e
 case capn=>simp only[Bz]at e;split at e<;>first|(cases e;rfl)|cases e
 case mnx=>simp only[Bz]at e;split at e<;>first|cases e|(split at e<;>first|(cases e;rfl)|cases e)
theorem lX{o:Im}(ho:PX o=true){rho:AO→AV}{h h':Ax}{p:AV×Option Ax}(e:Bz tb cl rho h o=some p):Bz tb cl rho h' o=some (p.1,none):=by
 rw[rD ho (h':=h),e]
 have:=wV ho e
 obtain⟨a,b⟩:=p
 simp only at this
 rw[this]
theorem KE{d:Option Nat}{f:Fr}{v:AV}: ∀{ms:List Xv},Pn d ms=true→ ∀m∈ms,eval tb (put f d v) (.t m.t)=eval tb f (.t m.t)
 |[],_,m,hm=>by cases hm
 |q::r,h,m,hm=>by
  simp only[Pn,Bool.and_eq_true]at h
  rcases List.mem_cons.1 hm with rfl|hm
  ·cases d with
   |none=>rfl
   |some d=>
    have:=h.1
    simp only[Bool.not_eq_true']at this
    simp only[eval,put,get]
    rw[if_neg fun e=>by rw[e,Nat.beq_refl]at this;cases this]
  ·exact KE h.2 m hm
theorem RL{f g:Fr}{h:Ax}{ag:Bool}{n t:Nat}(e:eval tb f (.t t)=eval tb g (.t t)):Bz tb cl (eval tb f) h (.ld ag n (.t t))=Bz tb cl (eval tb g) h (.ld ag n (.t t)):=by
 simp only[Bz,e]
def xH(tb:Dg)(cl:Nat→List AV→Ax→Lb)(f:Fr)(tl:List Ax)(m:Xv):Prop:= ∀i h',i<m.c→tl[i]? =some h'→Bz tb cl (eval tb f) h' (.ld m.ag m.n (.t m.t))=some (m.v,none)
theorem gX: ∀{ms:List Xv} {m:Xv},m∈ms→1<m.c→{m with c:=m.c-1}∈bK ms
 |q::r,m,hm,hc=>by
  rcases List.mem_cons.1 hm with rfl|hm
  ·obtain⟨ag,n,t,v,c⟩:=m
   match c,hc with
   |c+2,_=>simp[bK]
  ·have:=gX hm hc
   simp only[bK]
   split
   ·exact this
   ·exact this
   ·exact List.mem_cons_of_mem _ this
theorem wW{N k lo hi:Nat}{o:Im}{v:AV}{ms:List Xv}{m:Xv}(h:m∈ms):m∈iJ N k lo hi o v ms:=by
 simp only[iJ]
 cases OU N k lo hi o with
 |true=>exact h
 |false=>simp only[cond_false];split<;>simp[h]
theorem jW{N k lo hi:Nat}{d:Option Nat}{o:Im}(h:eJ N k lo hi d o=true): ∃ag n t,o= .ld ag n (.t t)∧lo=k∧hi≤N∧d≠some t:=by
 match o,h with
 | .ld ag n (.t t),h=>
  simp only[eJ,Bool.and_eq_true]at h
  refine⟨ag,n,t,rfl,Nat.eq_of_beq_eq_true h.1.1,Nat.le_of_ble_eq_true h.1.2,?_⟩
  rintro rfl
  have:=h.2
  simp only[Nat.beq_refl,Bool.not_true,Bool.false_eq_true]at this
open Classical in
theorem L0{N:Nat}: ∀{l:List Bl} {k:Nat} {ms:List Xv} {es:List Eob} {w:List (Option (Nat×Nat))} {f:Fr} {h:Ax} {f':Fr} {h':Ax},LZ tb cl N k ms es l w f h (f',h')→
  ∃tl,Ik tb cl l w f h=some (h::tl)∧(h::tl).getLast?=some h'∧k+tl.length=N∧(∀m∈ms,xH tb cl f tl m)∧ ∀(pre:List Ax),pre.length=k→(∀e∈es,∀j g,e.lo≤j→pre[j]? =some g→load g e.ag e.n e.a=some e.v)→J6 tb cl (pre++h::tl) l w k f=some f'
 |[],k,ms,es,w,f,h,f',h',e=>by
  cases w with
  |nil=>
   simp only[LZ,Prod.mk.injEq]at e
   obtain⟨hk,rfl,rfl⟩:=e
   exact⟨[],by simp[Ik],rfl,by simpa using hk,fun m _ i h' _ hi=>by simp at hi,fun pre hp _=>by simp[J6,hp]⟩
  |cons=>simp[LZ]at e
 |⟨d,g,o⟩::l,k,ms,es,[],f,h,f',h',e=>by simp[LZ]at e
 |⟨d,gd,o⟩::l,k,ms,es,none::w,f,h,f',h',e=>by
  simp only[LZ]at e
  rcases e with ⟨hwt,p,es',hp,hc1,hc2,hc3,e⟩|⟨hwt,rfl,e⟩
  rotate_left
  ·obtain⟨tl,h1,h2,h3,h4,h5⟩:=L0 e
   refine⟨h::tl,?_,?_,by simp;omega,(fun m hm=>absurd hm (by simp)),fun pre hpre hes=> ?_⟩
   ·simp[Ik,hwt,h1]
   ·simpa using h2
   ·have h6:=h5 (pre++[h]) (by simp[hpre]) (fun x hx=>absurd hx (by simp))
    simp only[List.append_assoc,List.singleton_append]at h6
    have g0:(pre++h::h::tl)[k]? =some h:=by rw[←hpre,List.getElem?_append_right (Nat.le_refl _),Nat.sub_self];rfl
    have g1:(pre++h::h::tl)[k+1]? =some h:=by rw[←hpre,List.getElem?_append_right (by omega),Nat.add_sub_cancel_left];rfl
    simp only[J6,hwt,Option.bind_some,Bool.false_eq_true,if_false,g0,g1,if_true]
    exact h6
  obtain⟨tl,h1,h2,h3,h4,h5⟩:=L0 e
  refine⟨p.2.getD h::tl,?_,?_,by simp;omega,?_,fun pre hpre hes=> ?_⟩
  ·simp[Ik,hwt,hp,h1]
  ·simpa using h2
  ·intro m hm i h' hi hg
   have he:=KE (tb:=tb) (f:=f) (v:=p.1) hc1 m hm
   rw[RL he.symm]
   cases i with
   |zero=>
    simp only[List.getElem?_cons_zero,Option.some.injEq]at hg
    subst hg
    exact hc2 m hm (by omega)
   |succ i=>
    simp only[List.getElem?_cons_succ]at hg
    exact h4 _ (gX hm (by omega)) i h' (by simp only;omega) hg
  ·have h6:=h5 (pre++[h]) (by simp[hpre]) (fun x hx j g hj hg=>by
    rcases Nat.lt_or_ge j pre.length with hlt|hge
    ·rw[List.getElem?_append_left hlt]at hg
     rcases(hc3 x hx).1 with hx'|hx'
     ·exact hes x hx' j g hj hg
     ·omega
    ·rw[List.getElem?_append_right hge]at hg
     have:j-pre.length=0:=by
      rcases Nat.eq_zero_or_pos (j-pre.length)with h|h
      ·exact h
      ·rw[List.getElem?_eq_none (by simp;omega)]at hg;cases hg
     rw[this]at hg
     simp only[List.getElem?_cons_zero,Option.some.injEq]at hg
     subst hg
     exact(hc3 x hx).2)
   simp only[List.append_assoc,List.singleton_append]at h6
   have g0:(pre++h::p.2.getD h::tl)[k]? =some h:=by rw[←hpre,List.getElem?_append_right (Nat.le_refl _),Nat.sub_self];rfl
   have g1:(pre++h::p.2.getD h::tl)[k+1]? =some (p.2.getD h):=by rw[←hpre,List.getElem?_append_right (by omega),Nat.add_sub_cancel_left];rfl
   simp only[J6,hwt,Option.bind_some,if_true,g0,hp,g1]
   exact h6
 |⟨d,gd,o⟩::l,k,ms,es,some (lo,hi)::w,f,h,f',h',e=>by
  simp only[LZ]at e
  rcases e with ⟨hwt,p,hp,hu,hfr,e⟩|⟨hwt,hfr,e⟩
  rotate_left
  ·obtain⟨tl,h1,h2,h3,h4,h5⟩:=L0 e
   refine⟨tl,?_,h2,h3,fun m hm i h' hi hg=> ?_,fun pre hpre hes=> ?_⟩
   ·simp[Ik,hwt,h1]
   ·have he:=KE (tb:=tb) (f:=f) (v:= .tup []) hfr m hm
    rw[RL he.symm]
    exact h4 m hm i h' hi hg
   ·have h6:=h5 pre hpre hes
    simp only[J6,hwt,Option.bind_some,Bool.false_eq_true,if_false]
    exact h6
  rcases e with ⟨hpl,e⟩|⟨hhi0,⟨x,hx,t0,hxo,hxa,hxv,hxl⟩,e⟩
  ·obtain⟨tl,h1,h2,h3,h4,h5⟩:=L0 e
   have hms: ∀m∈ms,xH tb cl f tl m:=fun m hm i h' hi hg=>by
    have he:=KE (tb:=tb) (f:=f) (v:=p.1) hfr m hm
    rw[RL he.symm]
    exact h4 m (wW hm) i h' hi hg
   refine⟨tl,?_,h2,h3,hms,fun pre hpre hes=> ?_⟩
   ·simp[Ik,hwt,hp,hu,h1]
   ·have h6:=h5 pre hpre hes
    have g0:(pre++h::tl)[k]? =some h:=by rw[←hpre,List.getElem?_append_right (Nat.le_refl _),Nat.sub_self];rfl
    have hlen:(pre++h::tl).length=N+1:=by simp[hpre];omega
    have hk: ∀j,lo≤j→j<lo+(hi+1-lo)→ ∃u,((pre++h::tl)[j]?).bind (fun h=>Bz tb cl (eval tb f) h o)=some (p.1,u)∧some (u.getD ((pre++h::tl)[j]?.getD []))=(pre++h::tl)[j]? :=by
     intro j hj1 hj2
     simp only[Bool.or_eq_true]at hpl
     cases hP:OU N k lo hi o with
     |true=>
      have hP':=hP
      simp only[OU,Bool.or_eq_true,Bool.and_eq_true]at hP'
      rcases hP' with ⟨hlo,hhi⟩|⟨hb,hle⟩
      ·have hlo:=Nat.eq_of_beq_eq_true hlo
       have hhi:=Nat.eq_of_beq_eq_true hhi
       obtain rfl:j=k:=by omega
       exact⟨p.2,by rw[g0,Option.bind_some,hp],by rw[g0];simp[hu]⟩
      ·have hle:=Nat.le_of_ble_eq_true hle
       have hj:j<(pre++h::tl).length:=by omega
       rw[List.getElem?_eq_getElem hj]
       exact⟨none,by rw[Option.bind_some];exact lX hb hp,rfl⟩
     |false=>
      have hL:eJ N k lo hi d o=true:=hpl.resolve_left (by rw[hP];simp)
      obtain⟨ag,n,t,rfl,hlo,hhi,hd⟩:=jW hL
      have hp2:p.2=none:=GW hp
      rcases Nat.lt_or_ge k j with hkj|hkj
      ·have hm:(⟨ag,n,t,p.1,hi-k⟩:Xv)∈iJ N k lo hi (.ld ag n (.t t)) p.1 ms:=by
        simp only[iJ,hP,cond_false];simp
       have hj:j<(pre++h::tl).length:=by omega
       have hjt:(pre++h::tl)[j]? =tl[j-k-1]? :=by
        rw[List.getElem?_append_right (by omega),hpre,show j-k=(j-k-1)+1 by omega,List.getElem?_cons_succ];rfl
       have hjl:j-k-1<tl.length:=by simp[hpre]at hlen;omega
       rw[hjt,List.getElem?_eq_getElem hjl]
       have:=h4 _ hm (j-k-1) _ (by simp only;omega) (List.getElem?_eq_getElem hjl)
       have he:eval tb (put f d p.1) (.t t)=eval tb f (.t t):=by
        cases d with
        |none=>rfl
        |some d=>
         simp only[eval,put,get]
         rw[if_neg fun e=>hd (by rw[e])]
       rw[RL he]at this
       exact⟨none,by rw[Option.bind_some];exact this,rfl⟩
      ·obtain rfl:j=k:=by omega
       exact⟨p.2,by rw[g0,Option.bind_some,hp],by rw[g0];simp[hu]⟩
    simp only[J6,hwt,Option.bind_some,if_true,g0,hp]
    rw[if_pos (by
     rw[List.all_eq_true]
     intro j hj
     rw[List.mem_range'_1]at hj
     exact decide_eq_true (hk j hj.1 hj.2))]
    exact h6
  ·obtain⟨tl,h1,h2,h3,h4,h5⟩:=L0 e
   have hms: ∀m∈ms,xH tb cl f tl m:=fun m hm i h' hi hg=>by
    have he:=KE (tb:=tb) (f:=f) (v:=p.1) hfr m hm
    rw[RL he.symm]
    exact h4 m hm i h' hi hg
   refine⟨tl,?_,h2,h3,hms,fun pre hpre hes=> ?_⟩
   ·simp[Ik,hwt,hp,hu,h1]
   ·have h6:=h5 pre hpre hes
    have g0:(pre++h::tl)[k]? =some h:=by rw[←hpre,List.getElem?_append_right (Nat.le_refl _),Nat.sub_self];rfl
    have hk: ∀j,lo≤j→j<lo+(hi+1-lo)→ ∃u,((pre++h::tl)[j]?).bind (fun h=>Bz tb cl (eval tb f) h o)=some (p.1,u)∧some (u.getD ((pre++h::tl)[j]?.getD []))=(pre++h::tl)[j]? :=by
     intro j hj1 hj2
     rcases Nat.lt_or_ge j k with hjk|hjk
     ·have hjp:j<pre.length:=by omega
      rw[List.getElem?_append_left hjp,List.getElem?_eq_getElem hjp]
      have:=hes x hx j pre[j] (by omega) (List.getElem?_eq_getElem hjp)
      refine⟨none,?_,rfl⟩
      rw[Option.bind_some,hxo,hxv]
      simp only[Bz,eval,hxa,this,val,Option.map_some]
     ·obtain rfl:j=k:=by omega
      exact⟨p.2,by rw[g0,Option.bind_some,hp],by rw[g0];simp[hu]⟩
    simp only[J6,hwt,Option.bind_some,if_true,g0,hp]
    rw[if_pos (by
     rw[List.all_eq_true]
     intro j hj
     rw[List.mem_range'_1]at hj
     exact decide_eq_true (hk j hj.1 hj.2))]
    exact h6
theorem YV{l:List Bl}{w:List (Option (Nat×Nat))}{f:Fr}{h:Ax}{n:Nat}{p:Fr×Ax}(e:LZ tb cl n 0 [] [] l w f h p):
  Bc tb cl (.regd l w) f h=some (.normal,p.1,p.2):=by
 obtain⟨tl,h1,h2,h3,h4,h5⟩:=L0 (f':=p.1) (h':=p.2) e
 have h6:=h5 [] rfl (fun e he=>by cases he)
 simp only[List.nil_append]at h6
 simp only[Bc,h1,Option.bind_some,List.tail_cons,h6,h2,Option.map_some]
end
structure Ob where
 ag:Bool
 n:Nat
 t:Nat
 d:Nat
 φ:AL
 c:Nat
def lR:List Ob→List Ob
 |[]=>[]
 |m::r=>match m.c with
  |0=>lR r
  |1=>lR r
  |c+2=>{m with c:=c+1}::lR r
def NN(d:Option Nat):List Ob→Bool
 |[]=>true
 |m::r=>(match d with|some d=> !Nat.beq d m.t&& !Nat.beq d m.d|none=>true)&&NN d r
def T.Uni(t:T):Prop:= ∀{P Q:Nat→Prop} {H G:Ax} {cs ds:List AV} {x:t.α},t.R P H cs x→t.R Q G ds x→cs=ds
theorem wY{α:Type}{c:α→AV}{z:α}{hs hm}:(S2 α c z hs hm).Uni:=fun h g=>h.trans g.symm
theorem xS{k:IntKind}:(T.int k).Uni:=wY
theorem T.Uni.V{t:T}(h:t.Uni){P Q:Nat→Prop}{H G:Ax}{v w:AV}{x:t.α}(r:t.V P H v x)(r':t.V Q G w x):v=w:=by
 rcases r with ⟨ha,cs,rfl,r⟩|⟨ha,r⟩
 ·rcases r' with ⟨_,ds,rfl,r'⟩|⟨hb,_⟩
  ·rw[h r r']
  ·rw[ha]at hb;cases hb
 ·rcases r' with ⟨hb,_⟩|⟨_,r'⟩
  ·rw[ha]at hb;cases hb
  ·have:=h r r'
   simpa using this
def AL.Uni:AL→Prop
 | .val t _=>t.Uni
 | .own _=>True
 | .cp _ _=>True
 | .ep _ _ _=>True
 | .oc _ _ _ _=>True
 | .con _=>True
 | .kv _=>True
 | .fnv _ _ _=>True
 |_=>False
theorem AL.Uni.eq{φ:AL}(h:φ.Uni){rv:Nat→AV}{ss:Ss}{P Q:Nat→Prop}{H G:Ax}{v w:AV}(r:FR rv ss P H φ v)(r':FR rv ss Q G φ w):v=w:=by
 cases φ<;>simp only[AL.Uni]at h
 case val t x=>exact T.Uni.V h r r'
 case own j=>exact r.2.trans r'.2.symm
 case cp j o=>
  obtain⟨_,id,e,rfl⟩:=r
  obtain⟨_,id',e',rfl⟩:=r'
  rw[e]at e';cases e';rfl
 case ep j i o=>
  obtain⟨_,id,n,e,_,rfl⟩:=r
  obtain⟨_,id',n',e',_,rfl⟩:=r'
  rw[e]at e';cases e';rfl
 case oc j o s n=>
  obtain⟨_,id,e,rfl⟩:=r
  obtain⟨_,id',e',rfl⟩:=r'
  rw[e]at e';cases e';rfl
 case con c=>exact r.1.trans r'.1.symm
 case kv j=>exact r.2.trans r'.2.symm
 case fnv f js ks=>exact r.2.trans r'.2.symm
inductive Yv(tb:Dg)(Γ:Cx):List Ob→Prop where
 |nil:Yv tb Γ []
 |cons {ag:Bool} {n t d c:Nat} {φ:AL} {l:List Ob} (h:Gd tb Γ (.ld ag n (.t t)) (some ()) fun _=>φ) (hd:Dd tb Γ (.t d) φ) (hu:φ.Uni) (r:Yv tb Γ l):Yv tb Γ (⟨ag,n,t,d,φ,c⟩::l)
inductive mI(f:Fr):List Ob→List Xv→Prop where
 |nil:mI f [] []
 |cons {ag:Bool} {n t d c:Nat} {φ:AL} {v:AV} {l:List Ob} {ms:List Xv} (h:get f d=v) (r:mI f l ms):mI f (⟨ag,n,t,d,φ,c⟩::l) (⟨ag,n,t,v,c⟩::ms)
theorem mI.dec{f:Fr}: ∀{l:List Ob} {ms:List Xv},mI f l ms→mI f (lR l) (bK ms)
 |_,_, .nil=> .nil
 |_,_, .cons (c:=c) h r=>by
  match c with
  |0=>exact r.dec
  |1=>exact r.dec
  |c+2=>exact .cons h r.dec
theorem mI.fresh{d:Option Nat}{f:Fr}: ∀{l:List Ob} {ms:List Xv},mI f l ms→NN d l=true→Pn d ms=true
 |_,_, .nil,_=>rfl
 |_,_, .cons h r,e=>by
  simp only[NN,Bool.and_eq_true]at e
  simp only[Pn,Bool.and_eq_true]
  refine⟨?_,r.fresh e.2⟩
  cases d with
  |none=>rfl
  |some d=>have:=e.1;simp only[Bool.and_eq_true]at this;exact this.1
theorem mI.put{d:Option Nat}{f:Fr}{w:AV}: ∀{l:List Ob} {ms:List Xv},mI f l ms→NN d l=true→mI (put f d w) l ms
 |_,_, .nil,_=> .nil
 |_,_, .cons h r,e=>by
  simp only[NN,Bool.and_eq_true]at e
  refine .cons ?_ (r.put e.2)
  cases d with
  |none=>exact h
  |some d=>
   have:=e.1
   simp only[Bool.and_eq_true,Bool.not_eq_true']at this
   simp only[Am.put,get]
   rw[if_neg fun e=>by rw[e,Nat.beq_refl]at this;cases this.2]
   exact h
theorem Yv.spec{tb:Dg}{Γ:Cx}{E:P4}{rv:Nat→AV}{fp:Fp}{f:Fr}{H:Ax}(I:Bx E Γ rv fp f H): ∀{l:List Ob} {ms:List Xv},Yv tb Γ l→mI f l ms→ ∀m∈ms,0<m.c→Bz tb (C1 tb) (eval tb f) H (.ld m.ag m.n (.t m.t))=some (m.v,none)
 |_,_, .nil, .nil,m,hm,_=>by cases hm
 |_,_, .cons h hd hu r, .cons h' r',m,hm,hc=>by
  rcases List.mem_cons.1 hm with rfl|hm
  ·obtain⟨v,u,h1,h2,h3⟩:=h E rv fp f H I () rfl
   have:=hu.eq h3 (hd E rv fp f H I)
   subst this
   rw[h1]
   have:u=none:=GW (p:=(_,u)) h1
   rw[this,←h'];rfl
  ·exact Yv.spec I r r' m hm hc
structure Cb where
 ag:Bool
 n:Nat
 t:Nat
 off:Nat
 lo:Nat
 u:T
 x:u.α
def Rb(d:Option Nat):List Cb→Bool
 |[]=>true
 |m::r=>(match d with|some d=> !Nat.beq d m.t|none=>true)&&Rb d r
inductive CR(f:Fr):List Cb→List Eob→Prop where
 |nil:CR f [] []
 |cons {ag:Bool} {n t off lo id o:Nat} {u:T} {x:u.α} {v a:AV} {l:List Cb} {es:List Eob} {P:Nat→Prop} {H:Ax} (h0:get f t= .ptr id o) (ha:a= .ptr id (o+off)) (h:u.V P H v x) (r:CR f l es):
   CR f (⟨ag,n,t,off,lo,u,x⟩::l) (⟨ag,n,a,v,lo⟩::es)
theorem CR.put{d:Option Nat}{f:Fr}{w:AV}: ∀{l:List Cb} {es:List Eob},CR f l es→Rb d l=true→CR (put f d w) l es
 |_,_, .nil,_=> .nil
 |_,_, .cons h0 ha h r,e=>by
  simp only[Rb,Bool.and_eq_true]at e
  refine .cons ?_ ha h (r.put e.2)
  cases d with
  |none=>exact h0
  |some d=>
   have:=e.1
   simp only[Bool.not_eq_true']at this
   simp only[Am.put,get]
   rw[if_neg fun e=>by rw[e,Nat.beq_refl]at this;cases this]
   exact h0
theorem CR.find{f:Fr}: ∀{l:List Cb} {es:List Eob} {i:Nat} {c:Cb},CR f l es→l[i]? =some c→ ∃e∈es,e.ag=c.ag∧e.n=c.n∧e.lo=c.lo∧(∃id o,get f c.t= .ptr id o∧e.a= .ptr id (o+c.off))∧ ∃P H,c.u.V P H e.v c.x
 |_,_,i,c, .nil,h=>by simp at h
 |_,_,0,c, .cons h0 ha h r,hc=>by
  simp only[List.getElem?_cons_zero,Option.some.injEq]at hc
  subst hc
  exact⟨_,List.mem_cons_self,rfl,rfl,rfl,⟨_,_,h0,ha⟩,_,_,h⟩
 |_,_,i+1,c, .cons h0 ha h r,hc=>by
  simp only[List.getElem?_cons_succ]at hc
  obtain⟨e,he,g⟩:=r.find hc
  exact⟨e,List.mem_cons_of_mem _ he,g⟩
def LdAt(Γ:Cx)(c:Cb):Prop:= ∃j o ps N s y o',BI Γ.ts c.t=some (.cp j o)∧AG Γ.ss j=some (.cells ps)∧KF ps (o+c.off)=some (N, .val s y,o')∧ ∃F:AZ s c.u o',F.get y=c.x∧c.ag=c.u.agg∧c.n=c.u.sz
theorem LdAt.spec{Γ:Cx}{c:Cb}{E:P4}{rv:Nat→AV}{fp:Fp}{f:Fr}{H:Ax}(h:LdAt Γ c)(R:Bx E Γ rv fp f H): ∃id o v,get f c.t= .ptr id o∧load H c.ag c.n (.ptr id (o+c.off))=some v∧c.u.V (Pf E Γ.ss fp H) H v c.x:=by
 obtain⟨j,o,ps,N,s,y,o',h1,hj,hp,F,hx,hag,hn⟩:=h
 obtain⟨l,id,e,hv⟩:=R.temps _ _ h1
 obtain⟨cs,h0,h2,h3⟩:=Hh R hj e
 obtain⟨b',c',e0,e1,e2,e3,e4,e5,_⟩:=GO h3 hp
 have hle:=F.le
 have hl:=s.len e4
 have hr:=F.getR e4
 rw[←e5 o' c.u.sz (by omega),←e1]at hr
 obtain⟨v,g1,g2⟩:=T.V.of hr
 refine⟨id,o,v,hv,?_,by rw[←hx];exact g2⟩
 rw[hag,hn]
 simp only[Am.load,place,h2,Option.map_some,Option.bind_some,if_pos (show o+c.off+c.u.sz≤cs.length by omega),g1]
inductive LX(Γ:Cx)(k:Nat)(C:List Cb):List Cb→Prop where
 |nil:LX Γ k C []
 |new {c:Cb} {l:List Cb} (hk:c.lo=k) (h:LdAt Γ c) (r:LX Γ k C l):LX Γ k C (c::l)
 |old {c:Cb} {l:List Cb} (i:Nat) (hi:C[i]? =some c) (hu:c.u.Uni) (h:LdAt Γ c) (r:LX Γ k C l):LX Γ k C (c::l)
theorem LX.spec{Γ:Cx}{k:Nat}{C:List Cb}{es:List Eob}{E:P4}{rv:Nat→AV}{fp:Fp}{f:Fr}{H:Ax}(R:Bx E Γ rv fp f H)(hC:CR f C es): ∀{l:List Cb},LX Γ k C l→ ∃es',CR f l es'∧ ∀e∈es',(e∈es∨e.lo=k)∧load H e.ag e.n e.a=some e.v
 |_, .nil=>⟨[], .nil,fun _ h=>by cases h⟩
 |_, .new (c:=c) hk h r=>by
  obtain⟨es',h1,h2⟩:=r.spec R hC
  obtain⟨id,o,v,g1,g2,g3⟩:=h.spec R
  refine⟨⟨c.ag,c.n, .ptr id (o+c.off),v,c.lo⟩::es', .cons g1 rfl g3 h1,fun e he=> ?_⟩
  rcases List.mem_cons.1 he with rfl|he
  ·exact⟨.inr hk,g2⟩
  ·exact h2 e he
 |_, .old (c:=c) i hi hu h r=>by
  obtain⟨es',h1,h2⟩:=r.spec R hC
  obtain⟨id,o,v,g1,g2,g3⟩:=h.spec R
  obtain⟨e,he,e1,e2,e3,⟨id',o',e4,e5⟩,P,H',e6⟩:=hC.find hi
  have hv:v=e.v:=hu.V g3 e6
  rw[g1]at e4
  cases e4
  refine⟨⟨c.ag,c.n, .ptr id (o+c.off),v,c.lo⟩::es', .cons g1 rfl g3 h1,fun x hx=> ?_⟩
  rcases List.mem_cons.1 hx with rfl|hx
  ·refine⟨.inl ?_,g2⟩
   obtain⟨ag,n,a,v',lo⟩:=e
   simp only at e1 e2 e3 e5 hv
   subst e1 e2 e3 e5 hv
   exact he
  ·exact h2 x hx
structure A0(tb:Dg)(Γ:Cx)(N k:Nat)(B:List Ob)(C:List Cb)(l:List Bl)(w:List (Option (Nat×Nat)))(ks:List Kf){ρ:Type}(Q:MR ρ) where
 m:Option ρ
 ok: ∀E f H,Rel E Γ f H→ ∀ms,mI f B ms→ ∀es,CR f C es→ ∀r,m=some r→ ∃p e f' H',LZ tb (C1 tb) N k ms es l w f H p∧Ip tb ks (.normal,p.1,p.2)=some (e,f',H')∧Q E r e f' H'
section
variable{tb:Dg}{Γ:Cx}{ks:List Kf}{ρ:Type}{Q:MR ρ}{w:List (Option (Nat×Nat))}{N k:Nat}{B:List Ob}{C C':List Cb}
def Aa.regd{l:List Bl}(n:Nat)(s:A0 tb Γ n 0 [] [] l w ks Q):Aa tb Γ (.regd l w) ks Q:=
 ⟨s.m,fun E f H R r hr=>by
  obtain⟨p,e,f',H',h1,h2,h3⟩:=s.ok E f H R [] .nil [] .nil r hr
  exact⟨e,f',H',by rw[YV h1];exact h2,h3⟩⟩
def Cc(s:Aa tb Γ (rg false []) ks Q):A0 tb Γ N N B C [] [] ks Q:=
 ⟨s.m,fun E f H R ms _ es _ r hr=>by
  obtain⟨e,f',H',h1,h2⟩:=s.ok E f H R r hr
  rw[DD]at h1
  exact⟨(f,H),e,f',H',⟨rfl,rfl⟩,h1,h2⟩⟩
def A0.turn{l:List Bl}{Γ':Cx}(h: ∀E f H,Rel E Γ f H→Rel E Γ' f H)(s:A0 tb Γ' N k B C l w ks Q):A0 tb Γ N k B C l w ks Q:=
 ⟨s.m,fun E f H R ms hms es hes r hr=>s.ok E f H (h E f H R) ms hms es hes r hr⟩
def A0.frzRow{l:List Bl}(j:Nat){t:T}{g:GS t.α}(h:AG Γ.ss j=some (.row t g))(hn:Nat.blt j ZR=true)(s:A0 tb (Γ.turn j (sM t g)) N k B C l w ks Q):A0 tb Γ N k B C l w ks Q:=
 s.turn fun _ _ _ ⟨rv,fp,I⟩=>⟨rv,fp,I.frzRow h hn⟩
variable{o:Im}{l:List Bl}{y:Nat×Nat}
def hZ(N k:Nat)(B:List Ob)(C:List Cb)(y:Nat×Nat)(d:Option Nat)(o:Im):Bool:=OU N k y.1 y.2 o&&(NN d B&&Rb d C)
theorem stepD{cl:Nat→List AV→Ax→Lb}{d:Option Nat}{ms:List Xv}{es:List Eob}{f:Fr}{H:Ax}{v:AV}{u:Option Ax}{p:Fr×Ax}(hq:hZ N k B C y d o=true)(hms:mI f B ms)(h1:Bz tb cl (eval tb f) H o=some (v,u))(h2:u.getD H=H)
  (g:LZ tb cl N k ms es l w (put f d v) H p):LZ tb cl N k ms es (⟨d,none,o⟩::l) (some y::w) f H p:=by
 obtain⟨lo,hi⟩:=y
 simp only[hZ,Bool.and_eq_true]at hq
 refine .inl ⟨rfl,(v,u),h1,h2,hms.fresh hq.2.1, .inl ⟨by rw[hq.1];rfl,?_⟩⟩
 simp only[iJ,hq.1,cond_true]
 exact g
theorem Xf{d:Option Nat}(hq:hZ N k B C y d o=true):NN d B=true∧Rb d C=true:=by
 simp only[hZ,Bool.and_eq_true]at hq;exact hq.2
def qZ(B:List Ob)(C':List Cb)(d:Option Nat):Bool:=NN d B&&Rb d C'
theorem stepW{Γ':Cx}{E:P4}{rv rv':Nat→AV}{fp fp':Fp}{d:Option Nat}{ms:List Xv}{es:List Eob}{f:Fr}{H:Ax}{v:AV}{u:Option Ax}(hq:qZ B C' d=true)(hb:Yv tb Γ' B)(hc:LX Γ k C C')(hms:mI f B ms)(hes:CR f C es)(I0:Bx E Γ rv fp f H)(h1:Bz tb (C1 tb) (eval tb f) H o=some (v,u))(I:Bx E Γ' rv' fp' (put f d v) (u.getD H)):
  ∃es',CR (put f d v) C' es'∧ ∀p,LZ tb (C1 tb) N (k+1) (bK ms) es' l w (put f d v) (u.getD H) p→LZ tb (C1 tb) N k ms es (⟨d,none,o⟩::l) (none::w) f H p:=by
 simp only[qZ,Bool.and_eq_true]at hq
 obtain⟨es',g1,g2⟩:=hc.spec I0 hes
 exact⟨es',g1.put hq.2,fun p g=> .inl ⟨rfl,(v,u),es',h1,hms.fresh hq.1,hb.spec I (hms.put hq.1),g2,g⟩⟩
def A0.op{d:Nat}{β:Type}{a:Option β}{φ:β→AL}(hq:hZ N k B C y (some d) o=true)(h:Gd tb Γ o a φ)(s:(b:β)→A0 tb (Γ.push d (φ b)) N k B C l w ks Q):A0 tb Γ N k B C (⟨some d,none,o⟩::l) (some y::w) ks Q:=
 ⟨a.bind fun b=>(s b).m,fun E f H ⟨rv,fp,I⟩ ms hms es hes r hr=>by
  obtain⟨b,hb,hr⟩:=Option.bind_eq_some_iff.1 hr
  obtain⟨v,u,h1,h2,h3⟩:=h E rv fp f H I b hb
  obtain⟨p,e,f',H',g,g'⟩:=(s b).ok E (put f (some d) v) H ⟨rv,fp,I.push h3⟩ ms (hms.put (Xf hq).1) es (hes.put (Xf hq).2) r hr
  exact⟨p,e,f',H',stepD hq hms h1 h2 g,g'⟩⟩
def Ap{d:Nat}{φ:AL}(hq:hZ N k B C y (some d) o=true)(h:Gd tb Γ o (some ()) fun _=>φ)(s:A0 tb (Γ.push d φ) N k B C l w ks Q):A0 tb Γ N k B C (⟨some d,none,o⟩::l) (some y::w) ks Q:=
 ⟨s.m,(A0.op hq h fun _=>s).ok⟩
def Dx{d:Nat}{t:T}{x:t.α}(hq:hZ N k B C y (some d) o=true)(h:Gd tb Γ o (some ()) fun _=> .val t x)(s:(y:t.α)→A0 tb (Γ.push d (.val t y)) N k B C l w ks Q):A0 tb Γ N k B C (⟨some d,none,o⟩::l) (some y::w) ks Q:=
 Ap hq h (s x)
def rI{d n t lo hi:Nat}{ag:Bool}{φ:AL}(hq:(!OU N k lo hi (.ld ag n (.t t))&&(eJ N k lo hi (some d) (.ld ag n (.t t))&&(NN (some d) B&&Rb (some d) C)))=true)(h:Gd tb Γ (.ld ag n (.t t)) (some ()) fun _=>φ)
  (s:A0 tb (Γ.push d φ) N k (⟨ag,n,t,d,φ,hi-k⟩::B) C l w ks Q):A0 tb Γ N k B C (⟨some d,none, .ld ag n (.t t)⟩::l) (some (lo,hi)::w) ks Q:=
 ⟨s.m,fun E f H ⟨rv,fp,I⟩ ms hms es hes r hr=>by
  obtain⟨v,u',h1,h2,h3⟩:=h E rv fp f H I () rfl
  simp only[Bool.and_eq_true,Bool.not_eq_true']at hq
  obtain⟨p,e,f',H',h4,h5⟩:=s.ok E (put f (some d) v) H ⟨rv,fp,I.push h3⟩ (⟨ag,n,t,v,hi-k⟩::ms) (.cons (by simp[put,get]) (hms.put hq.2.2.1)) es (hes.put hq.2.2.2) r hr
  refine⟨p,e,f',H', .inl ⟨rfl,(v,u'),h1,h2,hms.fresh hq.2.2.1, .inl ⟨by rw[hq.2.1];simp,?_⟩⟩,h5⟩
  simp only[iJ,hq.1,cond_false]
  exact h4⟩
def CE{d:Option Nat}{β:Type}{a:Option β}{Γ':β→Cx}(hq:qZ B C' d=true)(hb: ∀b,Yv tb (Γ' b) B)(hc:LX Γ k C C')(h:Xs tb Γ d o a Γ')(s:(b:β)→A0 tb (Γ' b) N (k+1) (lR B) C' l w ks Q):A0 tb Γ N k B C (⟨d,none,o⟩::l) (none::w) ks Q:=
 ⟨a.bind fun b=>(s b).m,fun E f H ⟨rv,fp,I⟩ ms hms es hes r hr=>by
  obtain⟨b,hb',hr⟩:=Option.bind_eq_some_iff.1 hr
  obtain⟨v,u,h1,rv',fp',h3⟩:=h E rv fp f H I b hb'
  obtain⟨es',g1,g2⟩:=stepW (l:=l) (w:=w) (N:=N) hq (hb b) hc hms hes I h1 h3
  have hq':=hq;simp only[qZ,Bool.and_eq_true]at hq'
  obtain⟨p,e,f',H',g,g'⟩:=(s b).ok E _ _ ⟨rv',fp',h3⟩ _ (hms.put hq'.1).dec _ g1 r hr
  exact⟨p,e,f',H',g2 p g,g'⟩⟩
end
end Go.Proofs.YtobejhpigbllpaaGreatDoor.Am
namespace Go.Proofs.YtobejhpigbllpaaGreatDoor.Am
def ML(tB nne:Nat):D7:=⟨false,1,20,[],
 (.seq (rg false [⟨some 2,none, .mv (.t 0)⟩,⟨some 3,none, .nilc (.t 2)⟩,⟨some 4,none, .fa 0 (.t 3)⟩,⟨some 5,none, .ld false 1 (.t 4)⟩,⟨some 6,none, .eq false .p (.t 5) (.k (.nilp))⟩])
 (.cond (.t 6)
  (rg false [⟨some 7,none, .mv (.t 0)⟩,⟨some 8,none, .mv (.t 0)⟩,⟨some 9,none, .cvp (.t 8)⟩,⟨some 10,none, .call nne [(.t 9)]⟩,⟨some 11,none, .cvu tB 2 (.t 10)⟩,⟨some 12,none, .nilc (.t 7)⟩,⟨some 13,none, .fa 0 (.t 12)⟩,⟨none,none, .st 1 (.t 13) (.t 11)⟩])
  (.seq (rg false [⟨some 14,none, .mv (.t 0)⟩,⟨some 15,none, .nilc (.t 14)⟩,⟨some 16,none, .fa 0 (.t 15)⟩,⟨some 17,none, .ld false 1 (.t 16)⟩,⟨some 18,none, .mv (.t 0)⟩,⟨some 19,none, .eqp true (.t 17) (.t 18)⟩])
  (.cond (.t 19)
  .stop
  .skip))))⟩
def Vq(te ncc:Nat):D7:=⟨false,2,19,[.tmp 4, .tmp 5],
 (.seq (rg false [⟨some 4,none, .mv (.k (.i .i64 0))⟩,⟨some 5,none, .mv (.k (.nili))⟩])
 (.seq (rg false [⟨some 6,none, .mv (.t 0)⟩,⟨some 7,none, .call ncc [(.t 6)]⟩])
 (.seq (rg false [⟨some 8,none, .mv (.t 0)⟩,⟨some 9,none, .mv (.t 0)⟩,⟨some 10,none, .nilc (.t 9)⟩,⟨some 11,none, .fa 1 (.t 10)⟩,⟨some 12,none, .ld false 1 (.t 11)⟩,⟨some 13,none, .mv (.t 1)⟩,⟨some 14,none, .app te 1 1 (.t 12) (.t 13)⟩,⟨some 15,none, .nilc (.t 8)⟩,⟨some 16,none, .fa 1 (.t 15)⟩,⟨none,none, .st 1 (.t 16) (.t 14)⟩])
 (.seq (rg false [⟨some 17,none, .mv (.t 1)⟩,⟨some 18,none, .lens (.t 17)⟩,⟨some 4,none, .mv (.t 18)⟩,⟨some 5,none, .mv (.k (.nili))⟩])
 .ret))))⟩
def Vr(te ncc:Nat):D7:=⟨false,2,17,[.tmp 4],
 (.seq (rg false [⟨some 4,none, .mv (.k (.nili))⟩])
 (.seq (rg false [⟨some 5,none, .mv (.t 0)⟩,⟨some 6,none, .call ncc [(.t 5)]⟩])
 (.seq (rg false [⟨some 7,none, .mv (.t 0)⟩,⟨some 8,none, .mv (.t 0)⟩,⟨some 9,none, .nilc (.t 8)⟩,⟨some 10,none, .fa 1 (.t 9)⟩,⟨some 11,none, .ld false 1 (.t 10)⟩,⟨some 12,none, .mv (.t 1)⟩,⟨some 13,none, .bll 1 (List.replicate 1 T.u8.zc) [(0,(.t 12))]⟩,⟨some 14,none, .app te 1 1 (.t 11) (.t 13)⟩,⟨some 15,none, .nilc (.t 7)⟩,⟨some 16,none, .fa 1 (.t 15)⟩,⟨none,none, .st 1 (.t 16) (.t 14)⟩])
 (.seq (rg false [⟨some 4,none, .mv (.k (.nili))⟩])
 .ret))))⟩
def Ro(te:Nat):D7:=⟨false,1,14,[.tmp 2],
 (.seq (rg false [⟨some 2,none, .mv (.k (.s []))⟩])
 (.seq (.regd [⟨some 3,none, .mv (.t 0)⟩,⟨some 4,none, .nilc (.t 3)⟩,⟨some 5,none, .fa 1 (.t 4)⟩,⟨some 6,none, .ld false 1 (.t 5)⟩,⟨some 7,none, .usd (.t 6)⟩,⟨some 8,none, .mv (.t 0)⟩,⟨some 9,none, .nilc (.t 8)⟩,⟨some 10,none, .fa 1 (.t 9)⟩,⟨some 11,none, .ld false 1 (.t 10)⟩,⟨some 12,none, .len (.t 11)⟩,⟨some 13,none, .ust te (.t 7) (.t 12)⟩,⟨some 2,none, .mv (.t 13)⟩] [some (0,0),some (0,0),some (0,0),some (0,0),some (0,0),some (0,0),some (0,0),some (0,0),some (0,0),some (0,0),none,some (1,1)])
 .ret))⟩
section
variable{tb:Dg}{tB te ncc nne nws nwb nbs:Nat}{h:Ax}{id:Nat}{a b:AV}
theorem GR{cs:List AV}{l:Option Nat}(hh:h[id]? =some (.cells l cs)):Cq h id=some cs∧E5 h id=l:=⟨by simp only[Cq,hh],by simp only[E5,hh]⟩
theorem dM{els:List (List AV)}{l:Option Nat}{fz:Bool}{sz:Nat}(hh:h[id]? =some (.row l fz sz els)):rowAt h id=some (fz,sz,els)∧E5 h id=l:=⟨by simp only[rowAt,hh],by simp only[E5,hh]⟩
theorem LG(fn:Bool)(n:Nat)(h:Ax)(hn:h.length=n)(vs:List AV)(hv:Bu vs=0): ∃u,VU fn n h vs=(GE vs,some u)∧u=h:=by
 have h1:aS h n vs=some vs:=by
  unfold aS
  exact NE (by omega)
 have h2:h.take n=h:=by rw[←hn];exact List.take_length
 cases fn
 ·simp only[VU,Wl,h1,h2]
  split<;>exact⟨_,rfl,rfl⟩
 ·exact⟨_,rfl,rfl⟩
theorem SP(n:Nat)(h:Ax)(hn: ¬Dh (h.take n)≤n)(vs:List AV)(hv:Bu vs=0)(fn:Bool):VU fn n h vs=(GE vs,some h):=by
 have h1:aS h n vs=some vs:=by
  unfold aS
  exact NE (by omega)
 cases fn
 ·simp only[VU,Wl,h1,if_neg hn]
 ·rfl
theorem Vl(hf:tb.prim ncc=none∧tb.fns ncc=some (ML tB nne))(hne:tb.prim nne=some Oy)(hh:h[id]? =some (.cells (some tB) [a,b]))(ha:a= .nilp∨a= .ptr id 0):
  B6 tb (C1 tb) h ncc [.ptr id 0]=some (.tup [],some (h.set id (.cells (some tB) [.ptr id 0,b]))):=by
 obtain⟨hc,hl⟩:=GR hh
 have hid:=(List.getElem?_eq_some_iff.1 hh).1
 simp only[B6,hf.1]
 rw[Pv,hf.2]
 rcases ha with rfl|rfl
 ·obtain⟨u,hu,rfl⟩:=LG false h.length (h.set id (.cells (some tB) [.ptr id 0,b])) (by simp) [] rfl
  simp[body,ML,Bc,rg,ops,wanted,Bz,eval,get,put,val,load,place,shift,hc,hl,HS,sub,bF,B6,hne,Oy,store,cellsOf,B2,results,hu,GE]
 ·have hs:h.set id (.cells (some tB) [.ptr id 0,b])=h:=by
   apply List.ext_getElem?
   intro j
   rw[List.getElem?_set]
   split
   ·rename_i hj;subst hj;exact hh.symm
   ·rfl
  obtain⟨u,hu,rfl⟩:=LG false h.length h rfl [] rfl
  simp[body,ML,Bc,rg,ops,wanted,Bz,eval,get,put,val,load,place,shift,hc,HS,sub,bF,results,hu,GE,hs]
theorem KI(s:AR):(B1 s).length=s.length:=by simp[B1]
theorem iA(s t:AR):B1 (s++t)=B1 s++B1 t:=by simp[B1]
theorem dF{h:Ax}{o:BW}(hh:h[id]? =some o):h.set id o=h:=by
 apply List.ext_getElem?
 intro j
 rw[List.getElem?_set]
 split
 ·rename_i hj;subst hj
  split
  ·exact hh.symm
  ·rename_i hn;exact absurd (List.getElem?_eq_some_iff.1 hh).1 hn
 ·rfl
inductive Xt(tB te:Nat)(h:Ax)(id:Nat)(s:AR):Ax→Prop where
 |none {a:AV} (hh:h[id]? =some (.cells (some tB) [a, .nils])) (ha:a= .nilp∨a= .ptr id 0) (hs:s=[]):Xt tB te h id s (h.set id (.cells (some tB) [.ptr id 0, .nils]))
 |first {a:AV} (hh:h[id]? =some (.cells (some tB) [a, .nils])) (ha:a= .nilp∨a= .ptr id 0) (hs:s≠[]) (hm:s.length≤B4):
  Xt tB te h id s (h.set id (.cells (some tB) [.ptr id 0, .orow h.length s.length 0 s.length])++[.row (some te) false 1 (B1 s)])
 |more {r:Nat} {l:AR} (hh:h[id]? =some (.cells (some tB) [.ptr id 0, .orow r l.length 0 l.length])) (hr:h[r]? =some (.row (some te) false 1 (B1 l))) (hne:r≠id) (hm:l.length+s.length≤B4):
  Xt tB te h id s ((h.set r (.row (some te) false 1 (B1 (l++s)))).set id (.cells (some tB) [.ptr id 0, .orow r (l++s).length 0 (l++s).length]))
theorem Zi{s:AR}{G:Ax}(hid:id<h.length)(hG:G=h.set id (.cells (some tB) [.ptr id 0, .orow h.length s.length 0 s.length])++[.row (some te) false 1 (B1 s)]): ¬Dh (G.take h.length)≤h.length:=by
 have h1:G.take h.length=h.set id (.cells (some tB) [.ptr id 0, .orow h.length s.length 0 s.length]):=by
  rw[hG];exact List.take_left' (by simp)
 rw[h1]
 have key: ∀(h:Ax) (id:Nat) (o:BW) (m:Nat),id<h.length→m<ED o→m<Dh (h.set id o):=by
  intro h
  induction h with
  |nil=>intro id o m hi;simp at hi
  |cons x h ih=>
   intro id o m hi ho
   cases id with
   |zero=>simp only[List.set_cons_zero,Dh];omega
   |succ id=>simp only[List.set_cons_succ,Dh];have:=ih id o m (by simpa using hi) ho;omega
 have:=key h id (.cells (some tB) [.ptr id 0, .orow h.length s.length 0 s.length]) h.length hid (by simp only[ED,Bu,BS];omega)
 omega
theorem MU{d:Option Nat}{o:Im}{l:List Bl}{f:Fr}{v:AV}{u:Option Ax}{r:Option (Fr×Ax)}(e:Bz tb (C1 tb) (eval tb f) h o=some (v,u))(k:ops tb (C1 tb) l (put f d v) (u.getD h)=r):ops tb (C1 tb) (⟨d,none,o⟩::l) f h=r:=by
 simp[ops,wanted,e,k]
theorem IZ{l:List Bl}{y:AC}{f f':Fr}{h':Ax}(e:ops tb (C1 tb) l f h=some (f',h')):Bc tb (C1 tb) (.seq (rg false l) y) f h=Bc tb (C1 tb) y f' h':=by
 simp[Bc,rg,e]
theorem rV{N j:Nat}{d:Option Nat}{o:Im}{l:List Bl}{w:List (Option (Nat×Nat))}{y:Nat×Nat}{f:Fr}{v:AV}{p:Fr×Ax}(e:Bz tb (C1 tb) (eval tb f) h o=some (v,none))(k:LZ tb (C1 tb) N j [] [] l w (put f d v) h p)(hq:OU N j y.1 y.2 o=true:=by rfl):LZ tb (C1 tb) N j [] [] (⟨d,none,o⟩::l) (some y::w) f h p:=by
 obtain⟨lo,hi⟩:=y
 refine .inl ⟨rfl,(v,none),e,rfl,rfl, .inl ⟨by rw[hq];rfl,?_⟩⟩
 simp only[iJ,hq,cond_true]
 exact k
theorem stW{N j:Nat}{d:Option Nat}{o:Im}{l:List Bl}{w:List (Option (Nat×Nat))}{f:Fr}{v:AV}{u:Option Ax}{p:Fr×Ax}(e:Bz tb (C1 tb) (eval tb f) h o=some (v,u))(k:LZ tb (C1 tb) N (j+1) [] [] l w (put f d v) (u.getD h) p):LZ tb (C1 tb) N j [] [] (⟨d,none,o⟩::l) (none::w) f h p:=
 .inl ⟨rfl,(v,u),[],e,rfl,(fun _ hm=>absurd hm (by simp)),(fun _ hx=>absurd hx (by simp)),k⟩
theorem stE{N:Nat}{f:Fr}:LZ tb (C1 tb) N N [] [] [] [] f h (f,h):=⟨rfl,rfl⟩
theorem mV{x y:AC}{f f':Fr}{h':Ax}(e:Bc tb (C1 tb) x f h=some (.normal,f',h')):Bc tb (C1 tb) (.seq x y) f h=Bc tb (C1 tb) y f' h':=by
 simp[Bc,e]
theorem Zj{cl:Nat→List AV→Ax→Lb}{rho:AO→AV}{x:AO}{ag:Bool}{n:Nat}{v:AV}(e:load h ag n (rho x)=some v):Bz tb cl rho h (.ld ag n x)=some (v,none):=by simp[Bz,e,val]
theorem wU{cl:Nat→List AV→Ax→Lb}{rho:AO→AV}{s x:AO}{t sz b:Nat}{new:List (List AV)}{r:AV×Option Ax}(e:dX h sz (rho x)=some new)(e':T9 h t sz b (rho s) new=some r):Bz tb cl rho h (.app t sz b s x)=some r:=by simp[Bz,e,e']
theorem ap_st{cl:Nat→List AV→Ax→Lb}{rho:AO→AV}{a x:AO}{n:Nat}{G:Ax}(e:store h n (rho a) (rho x)=some G):Bz tb cl rho h (.st n a x)=some (.junk,some G):=by simp[Bz,e]
theorem ap_len{cl:Nat→List AV→Ax→Lb}{rho:AO→AV}{x:AO}{n:Nat}(e:Pb (rho x)=some n):Bz tb cl rho h (.len x)=some (.i .i64 n,none):=by simp[Bz,e]
theorem Vn{rho:AO→AV}{g:Nat}{xs:List AO}{r:AV×Option Ax}(e:B6 tb (C1 tb) h g (xs.map rho)=some r):Bz tb (C1 tb) rho h (.call g xs)=some r:=by simp only[Bz];exact e
theorem ws_run{s:AR}{h1 G:Ax}{bv bv':AV}{u2:Option Ax}(hc:B6 tb (C1 tb) h ncc [.ptr id 0]=some (.tup [],some h1))(hld:load h1 false 1 (.ptr id 1)=some bv)(hap:T9 h1 te 1 1 bv (B1 s)=some (bv',u2))(hst:store (u2.getD h1) 1 (.ptr id 1) bv'=some G):
  ∃f',Bc tb (C1 tb) (Vq te ncc).body [(0, .ptr id 0),(1, .s s)] h=some (.ret,f',G)∧results f' G [.tmp 4, .tmp 5]=some [.i .i64 s.length, .nili]:=by
 apply Exists.intro
 apply And.intro
 ·unfold Vq
  simp only
  refine(IZ (MU (v:= .i .i64 0) (u:=none) rfl (MU (v:= .nili) (u:=none) rfl rfl))).trans ?_
  refine(IZ (MU (v:= .ptr id 0) (u:=none) rfl (MU (v:= .tup []) (u:=some h1) (Vn (by exact hc)) rfl))).trans ?_
  refine(IZ (MU (v:= .ptr id 0) (u:=none) rfl (MU (v:= .ptr id 0) (u:=none) rfl (MU (v:= .ptr id 0) (u:=none) rfl (MU (v:= .ptr id 1) (u:=none) rfl (MU (v:=bv) (u:=none) (Zj (by exact hld))
   (MU (v:= .s s) (u:=none) rfl (MU (v:=bv') (u:=u2) (wU (new:=B1 s) rfl (by exact hap)) (MU (v:= .ptr id 0) (u:=none) rfl (MU (v:= .ptr id 1) (u:=none) rfl
   (MU (v:= .junk) (u:=some G) (ap_st (by exact hst)) rfl))))))))))).trans ?_
  refine(IZ (MU (v:= .s s) (u:=none) rfl (MU (v:= .i .i64 s.length) (u:=none) rfl (MU (v:= .i .i64 s.length) (u:=none) rfl (MU (v:= .nili) (u:=none) rfl rfl))))).trans ?_
  rfl
 ·rfl
theorem wb_run{c:UInt8}{h1 G:Ax}{bv bv':AV}{u2:Option Ax}(hc:B6 tb (C1 tb) h ncc [.ptr id 0]=some (.tup [],some h1))(hld:load h1 false 1 (.ptr id 1)=some bv)(hap:T9 h1 te 1 1 bv (B1 [c])=some (bv',u2))(hst:store (u2.getD h1) 1 (.ptr id 1) bv'=some G):
  ∃f',Bc tb (C1 tb) (Vr te ncc).body [(0, .ptr id 0),(1, .i .u8 c.toNat)] h=some (.ret,f',G)∧results f' G [.tmp 4]=some [.nili]:=by
 apply Exists.intro
 apply And.intro
 ·unfold Vr
  simp only
  refine(IZ (MU (v:= .nili) (u:=none) rfl rfl)).trans ?_
  refine(IZ (MU (v:= .ptr id 0) (u:=none) rfl (MU (v:= .tup []) (u:=some h1) (Vn (by exact hc)) rfl))).trans ?_
  refine(IZ (MU (v:= .ptr id 0) (u:=none) rfl (MU (v:= .ptr id 0) (u:=none) rfl (MU (v:= .ptr id 0) (u:=none) rfl (MU (v:= .ptr id 1) (u:=none) rfl (MU (v:=bv) (u:=none) (Zj (by exact hld))
   (MU (v:= .i .u8 c.toNat) (u:=none) rfl (MU (v:= .sl 1 (B1 [c])) (u:=none) rfl (MU (v:=bv') (u:=u2) (wU (new:=B1 [c]) rfl (by exact hap)) (MU (v:= .ptr id 0) (u:=none) rfl (MU (v:= .ptr id 1) (u:=none) rfl
   (MU (v:= .junk) (u:=some G) (ap_st (by exact hst)) rfl)))))))))))).trans ?_
  refine(IZ (MU (v:= .nili) (u:=none) rfl rfl)).trans ?_
  rfl
 ·rfl
theorem WD(hcc:tb.prim ncc=none∧tb.fns ncc=some (ML tB nne))(hne:tb.prim nne=some Oy){s:AR}{G:Ax}(hg:Xt tB te h id s G):
  ∃h1 bv bv' u2,B6 tb (C1 tb) h ncc [.ptr id 0]=some (.tup [],some h1)∧load h1 false 1 (.ptr id 1)=some bv∧T9 h1 te 1 1 bv (B1 s)=some (bv',u2)∧store (u2.getD h1) 1 (.ptr id 1) bv'=some G∧
   (G.length=h.length∨ ¬Dh (G.take h.length)≤h.length):=by
 cases hg with
 |none hh ha hs=>
  subst hs
  have hc:=Vl hcc hne hh ha
  have hid:=(List.getElem?_eq_some_iff.1 hh).1
  have h2:=GR (h:=h.set id (.cells (some tB) [.ptr id 0, .nils])) (List.getElem?_set_self hid)
  refine⟨_, .nils, .nils,none,hc,?_,?_,?_, .inl (by simp)⟩
  ·simp[load,place,h2.1,HS,sub]
  ·simp[T9,B1]
  ·simp[store,h2.1,h2.2,cellsOf,B2]
 |first hh ha hs hm=>
  have hc:=Vl hcc hne hh ha
  have hid:=(List.getElem?_eq_some_iff.1 hh).1
  have h2:=GR (h:=h.set id (.cells (some tB) [.ptr id 0, .nils])) (List.getElem?_set_self hid)
  have hid':id<(h.set id (BW.cells (some tB) [.ptr id 0, .nils])).length:=by simpa using hid
  have h3:(h.set id (BW.cells (some tB) [.ptr id 0, .nils])++[BW.row (some te) false 1 (B1 s)])[id]? =some (.cells (some tB) [.ptr id 0, .nils]):=by
   rw[List.getElem?_append_left hid']
   exact List.getElem?_set_self hid
  have h4:=GR h3
  have hs0: ¬s.length=0:=by simpa using hs
  refine⟨_, .nils, .orow h.length s.length 0 s.length,some (h.set id (BW.cells (some tB) [.ptr id 0, .nils])++[BW.row (some te) false 1 (B1 s)]),hc,?_,?_,?_, .inr (Zi (te:=te) (tB:=tB) (s:=s) hid rfl)⟩
  ·simp[load,place,h2.1,HS,sub]
  ·simp[T9,KI,hs,hm]
  ·simp[store,h4.1,h4.2,cellsOf,B2]
   rw[List.set_append_left _ _ hid',List.set_set]
 | @more r l hh hr hne' hm=>
  have hc:=Vl hcc hne hh (.inr rfl)
  rw[dF hh]at hc
  have h1:=GR hh
  have hrow:=dM hr
  by_cases hs:s=[]
  ·subst hs
   have hm':l.length≤B4:=by simpa using hm
   refine⟨_, .orow r l.length 0 l.length, .orow r l.length 0 l.length,none,hc,?_,?_,?_, .inl (by simp)⟩
   ·simp[load,place,h1.1,HS,sub]
   ·simp[T9,hrow.1,KI,hm',B1]
   ·simp[store,h1.1,h1.2,cellsOf,B2,dF hr]
  ·have h2:(h.set r (BW.row (some te) false 1 (B1 (l++s))))[id]? =some (.cells (some tB) [.ptr id 0, .orow r l.length 0 l.length]):=by
    rw[List.getElem?_set_ne hne'];exact hh
   have h3:=GR h2
   have hs0: ¬s.length=0:=by simpa using hs
   refine⟨_, .orow r l.length 0 l.length, .orow r (l++s).length 0 (l++s).length,some (h.set r (BW.row (some te) false 1 (B1 (l++s)))),hc,?_,?_,?_, .inl (by simp)⟩
   ·simp[load,place,h1.1,HS,sub]
   ·simp[T9,hrow.1,hrow.2,KI,iA,hm,hs,TU]
   ·simp[store,h3.1,h3.2,cellsOf,B2]
theorem Ok{fn:D7}{args vs:List AV}{f f':Fr}{G:Ax}{e:Ex}(hn:args.length=fn.np)(hf:(args.zipIdx.map fun p=>(p.2,p.1))=f)(he:Bc tb (C1 tb) fn.body f h=some (e,f',G))(hex:e= .ret∨e= .normal)(hr:results f' G fn.res=some vs):
  body tb (C1 tb) fn args h=some (VU fn.warm h.length G vs):=by
 simp only[body,if_pos hn,hf,he,Option.bind_some]
 rcases hex with rfl|rfl<;>simp[hr]
theorem xO(hf:tb.prim nws=none∧tb.fns nws=some (Vq te ncc))(hcc:tb.prim ncc=none∧tb.fns ncc=some (ML tB nne))(hne:tb.prim nne=some Oy){s:AR}{G:Ax}(hg:Xt tB te h id s G):
  B6 tb (C1 tb) h nws [.ptr id 0, .s s]=some (.tup [.i .i64 s.length, .nili],some G):=by
 obtain⟨h1,bv,bv',u2,a1,a2,a3,a4,a5⟩:=WD hcc hne hg
 obtain⟨f',e1,e2⟩:=ws_run a1 a2 a3 a4
 simp only[B6,hf.1]
 rw[Pv,hf.2]
 simp only[Option.bind_some]
 rw[Ok (tb:=tb) (h:=h) (fn:=Vq te ncc) (args:=[.ptr id 0, .s s]) rfl rfl e1 (.inl rfl) e2]
 rcases a5 with a5|a5
 ·obtain⟨u,hu,rfl⟩:=LG false h.length G a5 [.i .i64 s.length, .nili] rfl
  exact congrArg some hu
 ·exact congrArg some (SP h.length G a5 [.i .i64 s.length, .nili] rfl false)
theorem xQ(hf:tb.prim nwb=none∧tb.fns nwb=some (Vr te ncc))(hcc:tb.prim ncc=none∧tb.fns ncc=some (ML tB nne))(hne:tb.prim nne=some Oy){c:UInt8}{G:Ax}(hg:Xt tB te h id [c] G):
  B6 tb (C1 tb) h nwb [.ptr id 0, .i .u8 c.toNat]=some (.nili,some G):=by
 obtain⟨h1,bv,bv',u2,a1,a2,a3,a4,a5⟩:=WD hcc hne hg
 obtain⟨f',e1,e2⟩:=wb_run a1 a2 a3 a4
 simp only[B6,hf.1]
 rw[Pv,hf.2]
 simp only[Option.bind_some]
 rw[Ok (tb:=tb) (h:=h) (fn:=Vr te ncc) (args:=[.ptr id 0, .i .u8 c.toNat]) rfl rfl e1 (.inl rfl) e2]
 rcases a5 with a5|a5
 ·obtain⟨u,hu,rfl⟩:=LG false h.length G a5 [.nili] rfl
  exact congrArg some hu
 ·exact congrArg some (SP h.length G a5 [.nili] rfl false)
theorem Zd: ∀l:AR,EL (B1 l)=some l
 |[]=>rfl
 |c::l=>by
  have:=Zd l
  simp only[B1,List.map_cons,EL]at this ⊢
  rw[this]
  simp
theorem wR{G:Ax}{bv pv:AV}{n:Nat}{s:AR}{u2:Option Ax}(hld:load h false 1 (.ptr id 1)=some bv)(hus:Bz tb (C1 tb) (fun _=>bv) h (.usd (.t 0))=some (pv,none))(hln:Pb bv=some n)
  (hst:Bz tb (C1 tb) (fun a=>match a with| .t 0=>pv|_=> .i .i64 n) h (.ust te (.t 0) (.t 1))=some (.s s,u2)) (hG:u2.getD h=G):
  ∃f',Bc tb (C1 tb) (Ro te).body [(0, .ptr id 0)] h=some (.ret,f',G)∧results f' G [.tmp 2]=some [.s s]:=by
 subst hG
 apply Exists.intro
 apply And.intro
 ·unfold Ro
  simp only
  refine(IZ (MU (v:= .s []) (u:=none) rfl rfl)).trans ?_
  refine(mV (YV (n:=1) (p:=(_,u2.getD h))
   (rV (v:= .ptr id 0) rfl (rV (v:= .ptr id 0) rfl (rV (v:= .ptr id 1) rfl (rV (v:=bv) (Zj (by exact hld)) (rV (v:=pv) (by exact hus) (rV (v:= .ptr id 0) rfl (rV (v:= .ptr id 0) rfl (rV (v:= .ptr id 1) rfl (rV (v:=bv) (Zj (by exact hld)) (rV (v:= .i .i64 n) (ap_len (by exact hln))
    (stW (v:= .s s) (u:=u2) (by exact hst) (rV (v:= .s s) rfl stE)))))))))))))).trans ?_
  rfl
 ·rfl
theorem iB(hf:tb.prim nbs=none∧tb.fns nbs=some (Ro te))(hh:h[id]? =some (.cells (some tB) [a, .nils])):B6 tb (C1 tb) h nbs [.ptr id 0]=some (.s [],some h):=by
 have hcl:=(GR hh).1
 obtain⟨f',e1,e2⟩:=wR (tb:=tb) (te:=te) (h:=h) (id:=id) (G:=h) (bv:= .nils) (pv:= .nilp) (n:=0) (s:=[]) (u2:=none) (by simp[load,place,hcl,HS,sub]) rfl rfl (by simp[Bz,Il]) rfl
 simp only[B6,hf.1]
 rw[Pv,hf.2]
 simp only[Option.bind_some]
 rw[Ok (tb:=tb) (h:=h) (fn:=Ro te) (args:=[.ptr id 0]) rfl rfl e1 (.inl rfl) e2]
 obtain⟨u,hu,rfl⟩:=LG false h.length h rfl [.s []] rfl
 exact congrArg some hu
theorem bs_eval(hf:tb.prim nbs=none∧tb.fns nbs=some (Ro te)){r:Nat}{l:AR}(hh:h[id]? =some (.cells (some tB) [a, .orow r l.length 0 l.length]))(hr:h[r]? =some (.row (some te) false 1 (B1 l)))(hl:l≠[])(hm:l.length≤B4):
  B6 tb (C1 tb) h nbs [.ptr id 0]=some (.s l,some (h.set r (.row (some te) true 1 (B1 l)))):=by
 have hcl:=(GR hh).1
 have hrow:=dM hr
 have hpos:0<l.length:=List.length_pos_iff.2 hl
 have htk:(B1 l).take l.length=B1 l:=List.take_of_length_le (by simp[B1])
 obtain⟨f',e1,e2⟩:=wR (tb:=tb) (te:=te) (h:=h) (id:=id) (G:=h.set r (.row (some te) true 1 (B1 l))) (bv:= .orow r l.length 0 l.length) (pv:= .pe r l.length 0 0) (n:=l.length) (s:=l) (u2:=some (h.set r (.row (some te) true 1 (B1 l))))
  (by simp[load,place,hcl,HS,sub]) (by simp[Bz,hrow.1,KI,hpos]) rfl (by simp[Bz,Il,hrow.1,hrow.2,KI,hpos,htk,Zd,show(l.length:Int)≤B4 by omega]) rfl
 simp only[B6,hf.1]
 rw[Pv,hf.2]
 simp only[Option.bind_some]
 rw[Ok (tb:=tb) (h:=h) (fn:=Ro te) (args:=[.ptr id 0]) rfl rfl e1 (.inl rfl) e2]
 obtain⟨u,hu,rfl⟩:=LG false h.length (h.set r (.row (some te) true 1 (B1 l))) (by simp) [.s l] rfl
 exact congrArg some hu
end
end Go.Proofs.YtobejhpigbllpaaGreatDoor.Am
namespace Go.Proofs.YtobejhpigbllpaaGreatDoor.Am
def P5(tB te:Nat)(g:Bool):Dom where
 α:=AR
 R:=fun F _ H v l=> ∃id,v= .ptr id 0∧((g=false∧l=[]∧ ∃a,(a= .nilp∨a= .ptr id 0)∧H[id]? =some (.cells (some tB) [a, .nils])∧ ∀i,F i↔i=id)∨
  ((g=true∨l≠[])∧ ∃r,r≠id∧H[id]? =some (.cells (some tB) [.ptr id 0, .orow r l.length 0 l.length])∧H[r]? =some (.row (some te) false 1 (B1 l))∧ ∀i,F i↔(i=id∨i=r)))
 lt:=by
  rintro F P H v l ⟨id,_,⟨_,_,a,_,h,hF⟩|⟨_,r,_,h,h',hF⟩⟩ i hi
  ·obtain rfl:=(hF i).1 hi;exact Bb h
  ·rcases(hF i).1 hi with rfl|rfl
   ·exact Bb h
   ·exact Bb h'
 men:=by
  rintro F P H v l m ⟨id,rfl,⟨_,_,a,_,h,hF⟩|⟨_,r,_,h,h',hF⟩⟩ _ hm
  ·exact hm id ((hF id).2 rfl)
  ·exact hm id ((hF id).2 (.inl rfl))
 mono:=by
  rintro F P Q H G v l _ hG ⟨id,hv,⟨h0,h1,a,h2,h,hF⟩|⟨h0,r,h1,h,h',hF⟩⟩
  ·exact⟨id,hv, .inl ⟨h0,h1,a,h2,by rw[hG id ((hF id).2 rfl)];exact h,hF⟩⟩
  ·exact⟨id,hv, .inr ⟨h0,r,h1,by rw[hG id ((hF id).2 (.inl rfl))];exact h,by rw[hG r ((hF r).2 (.inr rfl))];exact h',hF⟩⟩
def xM:Dom where
 α:=Unit
 R:=fun F _ H v _=>(∀i,F i→i<H.length)∧ ∃id,v= .ptr id 0∧F id
 lt:=fun h=>h.1
 men:=by rintro F P H v x m ⟨_,id,rfl,h⟩ _ hm;exact hm id h
 mono:=by
  rintro F P Q H G v x _ hG ⟨h,id,hv,hi⟩
  refine⟨fun i hi=> ?_,id,hv,hi⟩
  have h1:=h i hi
  have h2:=hG i hi
  rw[List.getElem?_eq_getElem h1]at h2
  exact Bb h2
theorem ND(l:AR):Di (B1 l)=0:=by
 have:=(Zl (P:=fun _=>False) (H:=[]) l).men (m:=0) (fun _ h=>h.elim)
 omega
section
variable{tb:Dg}{tB te ncc nne nws nwb nbs:Nat}
theorem iE{g:Bool}{F P:Nat→Prop}{H:Ax}{v:AV}{l s:AR}(hw:Dh H≤H.length)(h:(P5 tB te g).R F P H v l)(hm:l.length+s.length≤B4):
  ∃id G F',v= .ptr id 0∧Xt tB te H id s G∧H.length≤G.length∧(∀i,i<H.length→ ¬F i→G[i]? =H[i]?)∧(∀i,F' i→F i∨(H.length≤i∧i<G.length))∧Dh G≤G.length∧ ∀Q,(P5 tB te g).R F' Q G v (l++s):=by
 obtain⟨id,hv,⟨h0,h1,a,ha,hh,hF⟩|⟨h0,r,hne,hh,hr,hF⟩⟩:=h
 ·subst h1
  have hid:=Bb hh
  by_cases hs:s=[]
  ·subst hs
   refine⟨id,_,F,hv, .none hh ha rfl,by simp,fun i _ hi=>List.getElem?_set_ne fun e=>hi ((hF i).2 e.symm),fun i hi=> .inl hi,?_,fun Q=>⟨id,hv, .inl ⟨h0,rfl,_, .inr rfl,List.getElem?_set_self hid,hF⟩⟩⟩
   simp only[List.length_set]
   exact HX hw (by simp only[ED,Bu,BS];omega)
  ·refine⟨id,_,fun i=>i=id∨i=H.length,hv, .first hh ha hs (by simpa using hm),by simp,fun i hi hn=> ?_,fun i hi=> ?_,?_,fun Q=>⟨id,hv, .inr ⟨.inr (by simpa using hs),H.length,by omega,?_,?_,fun i=>Iff.rfl⟩⟩⟩
   ·rw[List.getElem?_append_left (by simpa using hi)]
    exact List.getElem?_set_ne fun e=>hn ((hF i).2 e.symm)
   ·rcases hi with rfl|rfl
    ·exact .inl ((hF _).2 rfl)
    ·exact .inr ⟨Nat.le_refl _,by simp⟩
   ·rw[PH]
    have:=HX (l:=H) (i:=id) (o:= .cells (some tB) [.ptr id 0, .orow H.length s.length 0 s.length]) (m:=H.length+1) (by omega) (by simp only[ED,Bu,BS];omega)
    simp only[Dh,ED,ND,List.length_append,List.length_set,List.length_cons,List.length_nil]
    omega
   ·rw[List.getElem?_append_left (by simpa using hid),List.nil_append]
    exact List.getElem?_set_self hid
   ·rw[List.getElem?_append_right (by simp)];simp
 ·have hid:=Bb hh
  have hrd:=Bb hr
  refine⟨id,_,F,hv, .more hh hr hne hm,by simp,fun i _ hi=> ?_,fun i hi=> .inl hi,?_,fun Q=>⟨id,hv, .inr ⟨?_,r,hne,?_,?_,hF⟩⟩⟩
  ·rw[List.getElem?_set_ne (fun e=>hi ((hF i).2 (.inl e.symm))),List.getElem?_set_ne (fun e=>hi ((hF i).2 (.inr e.symm)))]
  ·simp only[List.length_set]
   exact HX (HX hw (by simp only[ED,ND];omega)) (by simp only[ED,Bu,BS];omega)
  ·rcases h0 with h0|h0
   ·exact .inl h0
   ·exact .inr (by simp[h0])
  ·exact List.getElem?_set_self (by simpa using hid)
  ·rw[List.getElem?_set_ne (Ne.symm hne)]
   exact List.getElem?_set_self hrd
variable{Γ:Cx}{a b:AO}
theorem xG{d:Nat}{z:List AV}(j:Nat)(te:Nat)(hz:z=[.nilp, .nils])(hj:AG Γ.ss j=none):Xs tb Γ (some d) (.alloc tB z) (some ([]:AR)) fun l=>⟨(d, .own j)::Γ.ts,(j, .dom (P5 tB te false) l)::Γ.ss⟩:=by
 rintro E rv fp f H R _ ⟨⟩
 subst hz
 obtain⟨rv',fp',h1,h2,h3⟩:=R.more (j:=j) (S:= .dom (P5 tB te false) []) (v:= .ptr H.length 0) (o:= .cells (some tB) [.nilp, .nils]) (HY hj) (by simp only[ED,Bu,BS];omega) rfl (by simp[BS]) rfl fun rv' fp' e1 e2 hP hs=>
  ⟨H.length,e1, .inl ⟨rfl,rfl, .nilp, .inl rfl,by simp,e2⟩⟩
 exact⟨_,_,rfl,rv',fp',h3.push (d:=d) (φ:= .own j) ⟨h2,h1.symm⟩⟩
theorem Bx.dom{E:P4}{rv:Nat→AV}{fp:Fp}{f:Fr}{H G:Ax}(R:Bx E Γ rv fp f H){j:Nat}{S:BM}{D:Dom}{y:D.α}(hnk:D5 (AG Γ.ss j)=false)(hl:Bi Γ.ss j){F':Nat→Prop}(hlen:H.length≤G.length)(hG: ∀i,i<H.length→ ¬fp j i→G[i]? =H[i]?)
  (hF: ∀i,F' i→fp j i∨(H.length≤i∧i<G.length)) (hw:Dh G≤G.length) (hS:S= .dom D y) (hR: ∀Q,D.R F' Q G (rv j) y):
  ∃rv' fp',rv' j=rv j∧Bi ((j,S)::Γ.ss) j∧Bx E ⟨Γ.ts,(j,S)::Γ.ss⟩ rv' fp' f G:=by
 subst hS
 exact R.chg (j:=j) (S:= .dom D y) (v:=rv j) (F:=F') (G:=G) hnk rfl hlen (fun i hi hn=>hG i hi (hn hl)) (fun i hi=>(hF i hi).imp (fun h=>⟨hl,h⟩) id) (fun _=> .inl rfl) hw (Nat.le_trans (R.rvlt j hl) hlen) (.inr ((R.scal j hl).resolve_left (by rw[hnk];simp)))
  fun rv' fp' e1 e2 _ _=>by
   show D.R (fp' j) _ G (rv' j) y
   rw[e1,e2];exact hR _
def Ol(l s:AR):Option AR:=if l.length+s.length≤B4 then some (l++s)else none
theorem mK{g:Bool}{d j:Nat}{l s:AR}(hcc:tb.prim ncc=none∧tb.fns ncc=some (ML tB nne))(hne:tb.prim nne=some Oy)(hf:tb.prim nws=none∧tb.fns nws=some (Vq te ncc))
  (ha:Dd tb Γ a (.own j)) (hj:AG Γ.ss j=some (.dom (P5 tB te g) l)) (hb:Dd tb Γ b (.val Ak s)):
  Xs tb Γ (some d) (.call nws [a,b]) (Ol l s) fun l'=>⟨(d, .junk)::Γ.ts,(j, .dom (P5 tB te g) l')::Γ.ss⟩:=by
 intro E rv fp f H R l' hl'
 simp only[Ol]at hl'
 split at hl'
 ·rename_i hm
  cases hl'
  obtain⟨hl,hv⟩:=ha E rv fp f H R
  obtain⟨id,G,F',e,hg,h1,h2,h3,h4,h5⟩:=iE (s:=s) R.wf (R.slots j _ hj) hm
  obtain⟨rv',fp',g1,g2,g3⟩:=R.dom (G:=G) (F':=F') (by rw[hj];rfl) hl h1 h2 h3 h4 rfl h5
  refine⟨.tup [.i .i64 s.length, .nili],some G,?_,rv',fp',g3.push (d:=d) (φ:= .junk) trivial⟩
  simp only[Bz,List.map_cons,List.map_nil,hv,e,E2.1 (hb E rv fp f H R)]
  exact xO hf hcc hne hg
 ·cases hl'
theorem xF{g:Bool}{d j:Nat}{l:AR}{c:UInt8}(hcc:tb.prim ncc=none∧tb.fns ncc=some (ML tB nne))(hne:tb.prim nne=some Oy)(hf:tb.prim nwb=none∧tb.fns nwb=some (Vr te ncc))
  (ha:Dd tb Γ a (.own j)) (hj:AG Γ.ss j=some (.dom (P5 tB te g) l)) (hb:Dd tb Γ b (.val T.u8 c)):
  Xs tb Γ (some d) (.call nwb [a,b]) (Ol l [c]) fun l'=>⟨(d, .junk)::Γ.ts,(j, .dom (P5 tB te g) l')::Γ.ss⟩:=by
 intro E rv fp f H R l' hl'
 simp only[Ol]at hl'
 split at hl'
 ·rename_i hm
  cases hl'
  obtain⟨hl,hv⟩:=ha E rv fp f H R
  obtain⟨id,G,F',e,hg,h1,h2,h3,h4,h5⟩:=iE (s:=[c]) R.wf (R.slots j _ hj) hm
  obtain⟨rv',fp',g1,g2,g3⟩:=R.dom (G:=G) (F':=F') (by rw[hj];rfl) hl h1 h2 h3 h4 rfl h5
  refine⟨.nili,some G,?_,rv',fp',g3.push (d:=d) (φ:= .junk) trivial⟩
  simp only[Bz,List.map_cons,List.map_nil,hv,e,TC.1 (hb E rv fp f H R)]
  exact xQ hf hcc hne hg
 ·cases hl'
def lY(g:Bool)(l:AR):Option AR:=if l.length≤B4∧(g=true→l≠[])then some l else none
theorem xE{g:Bool}{d j:Nat}{l:AR}(hf:tb.prim nbs=none∧tb.fns nbs=some (Ro te))(ha:Dd tb Γ a (.own j))(hj:AG Γ.ss j=some (.dom (P5 tB te g) l)):
  Xs tb Γ (some d) (.call nbs [a]) (lY g l) fun l'=>⟨(d, .val Ak l')::Γ.ts,(j, .dom xM ())::Γ.ss⟩:=by
 intro E rv fp f H R l' hl'
 simp only[lY]at hl'
 split at hl'
 ·rename_i hc
  obtain⟨hm,hg⟩:=hc
  cases hl'
  obtain⟨hl,hv⟩:=ha E rv fp f H R
  have hd:=R.slots j _ hj
  obtain⟨id,e,⟨h0,h1,x,hx,hh,hF⟩|⟨h0,r,hne',hh,hr,hF⟩⟩:=hd
  ·subst h1
   obtain⟨rv',fp',g1,g2,g3⟩:=R.dom (D:=xM) (y:=()) (G:=H) (F':=fp j) (by rw[hj];rfl) hl (Nat.le_refl _) (fun _ _ _=>rfl) (fun i hi=> .inl hi) R.wf rfl (fun Q=>⟨fun i hi=>(R.fplt j i hl hi).1,id,e,(hF id).2 rfl⟩)
   refine⟨.s [],some H,?_,rv',fp',g3.push (d:=d) (φ:= .val Ak []) (E2.2 rfl)⟩
   simp only[Bz,List.map_cons,List.map_nil,hv,e]
   exact iB hf hh
  ·have hl0:l≠[]:=by
    rcases h0 with h0|h0
    ·exact hg h0
    ·exact h0
   have hrd:=Bb hr
   obtain⟨rv',fp',g1,g2,g3⟩:=R.dom (D:=xM) (y:=()) (G:=H.set r (.row (some te) true 1 (B1 l))) (F':=fp j) (by rw[hj];rfl) hl (by simp) (fun i _ hn=>List.getElem?_set_ne fun e=>hn ((hF i).2 (.inr e.symm))) (fun i hi=> .inl hi)
    (by simp only[List.length_set];exact HX R.wf (by simp only[ED,ND];omega)) rfl (fun Q=>⟨fun i hi=>by simpa using (R.fplt j i hl hi).1,id,e,(hF id).2 (.inl rfl)⟩)
   refine⟨.s l,some (H.set r (.row (some te) true 1 (B1 l))),?_,rv',fp',g3.push (d:=d) (φ:= .val Ak l) (E2.2 rfl)⟩
   simp only[Bz,List.map_cons,List.map_nil,hv,e]
   exact bs_eval hf hh hr hl0 hm
 ·cases hl'
end
end Go.Proofs.YtobejhpigbllpaaGreatDoor.Am
namespace Go.Proofs.YtobejhpigbllpaaGreatDoor.Am
section
variable{tb:Dg}{Γ:Cx}{a b:AO}{E:P4}{rv:Nat→AV}{fp:Fp}{f:Fr}{H:Ax}
theorem Bh{n j:Nat}{φ:AL}(h:BI Γ.ts n=some (.kv j))(hj:AG Γ.ss j=some (.keep φ)):Dd tb Γ (.t n) φ:=by
 intro E rv fp f H I
 have h1:=(I.temps n _ h).2
 have h2:=(I.slots j _ hj).1
 show FR rv Γ.ss (Pf E Γ.ss fp H) H φ (get f n)
 rw[h1];exact h2
theorem B3{g:Nat}:Dd tb Γ (.f g) (.fnv (.func g) [] []):=fun _ _ _ _ _ _=>⟨fun j hj=>(by cases hj),rfl⟩
theorem Bx.keepNew(I:Bx E Γ rv fp f H){j:Nat}{φ:AL}{v:AV}(hj:AG Γ.ss j=none)(h:FR rv Γ.ss (Pf E Γ.ss fp H) H φ v)(hv:BS v≤H.length):
  ∃rv' fp',rv' j=v∧(∀k,k≠j→rv' k=rv k)∧Bx E ⟨Γ.ts,(j, .keep φ)::Γ.ss⟩ rv' fp' f H∧ ∀ψ w,FR rv Γ.ss (Pf E Γ.ss fp H) H ψ w→FR rv' ((j, .keep φ)::Γ.ss) (Pf E ((j, .keep φ)::Γ.ss) fp' H) H ψ w:=by
 have hnl:=HY hj
 let rv':Nat→AV:=fun k=>if k=j then v else rv k
 let fp':Fp:=fun k=>if k=j then fun _=>False else fp k
 have hrj:rv' j=v:=if_pos rfl
 have hfj: ∀i,¬fp' j i:=fun i h=>by simp only[fp',if_true]at h
 have hr: ∀k,k≠j→rv' k=rv k:=fun k hk=>if_neg hk
 have hf: ∀k,k≠j→fp' k=fp k:=fun k hk=>if_neg hk
 have hlv: ∀k,k≠j→(Bi ((j, .keep φ)::Γ.ss) k↔Bi Γ.ss k):=fun k hk=>SX hk
 have hne: ∀k,Bi Γ.ss k→k≠j:=fun k l e=>hnl (e▸l)
 have hfind: ∀k,k≠j→AG ((j, .keep φ)::Γ.ss) k=AG Γ.ss k:=fun k hk=>by simp only[AG,if_neg (Ne.symm hk)]
 have hP: ∀i,Pf E Γ.ss fp H i→Pf E ((j, .keep φ)::Γ.ss) fp' H i:=by
  rintro i (h|⟨h1,h2,h3⟩)
  ·exact .inl h
  ·refine .inr ⟨h1,h2,fun k l e=> ?_⟩
   by_cases hk:k=j
   ·subst hk;exact hfj i e
   ·rw[hf k hk]at e;exact h3 k ((hlv k hk).1 l) e
 have hsame: ∀ψ,TD rv rv' Γ.ss ((j, .keep φ)::Γ.ss) ψ:=fun ψ k _ l=>⟨⟨(hlv k (hne k l)).2 l,fun e=>by rw[hfind k (hne k l)];exact e⟩,hr k (hne k l)⟩
 have hFR: ∀ψ w,FR rv Γ.ss (Pf E Γ.ss fp H) H ψ w→FR rv' ((j, .keep φ)::Γ.ss) (Pf E ((j, .keep φ)::Γ.ss) fp' H) H ψ w:=fun ψ w k=>k.mono (fun i hi=>⟨hP i hi,rfl⟩) (hsame ψ)
 refine⟨rv',fp',hrj,hr,⟨I.le,I.base,I.wf,?_,?_,?_,?_,?_,fun t ψ e=>hFR ψ _ (I.temps t ψ e),?_⟩,hFR⟩
 ·intro k i l e
  by_cases hk:k=j
  ·subst hk;exact absurd e (hfj i)
  ·rw[hf k hk]at e;exact I.fplt k i ((hlv k hk).1 l) e
 ·intro k l
  by_cases hk:k=j
  ·subst hk;rw[hrj];exact hv
  ·rw[hr k hk];exact I.rvlt k ((hlv k hk).1 l)
 ·intro k l
  by_cases hk:k=j
  ·subst hk;exact .inl (by simp only[AG,if_true];rfl)
  ·rw[hr k hk,hfind k hk];exact I.scal k ((hlv k hk).1 l)
 ·intro k k' i l l' e e'
  by_cases hk:k=j
  ·subst hk;exact absurd e (hfj i)
  ·by_cases hk':k'=j
   ·subst hk';exact absurd e' (hfj i)
   ·rw[hf k hk]at e
    rw[hf k' hk']at e'
    exact I.inj k k' i ((hlv k hk).1 l) ((hlv k' hk').1 l') e e'
 ·intro k S e
  by_cases hk:k=j
  ·subst hk
   simp only[AG,if_true,Option.some.injEq]at e
   subst e
   exact⟨by rw[hrj];exact hFR φ v h,hfj⟩
  ·rw[hfind k hk]at e
   exact(I.slots k S e).keep (hr k hk) (hf k hk) (fun i hi=>⟨hP i hi,rfl⟩) (Nat.le_refl _) (fun _ _=>rfl) (fun ps _ p _=>hsame p.2) (fun ψ _=>hsame ψ) fun _ _ _=>hsame _
 ·intro k ψ e
  by_cases hk:k=j
  ·subst hk;simp only[AG,if_true]at e;cases e
  ·rw[hfind k hk]at e;exact hFR ψ _ (I.gh k ψ e)
def iL:Nat→List AL→Ss→Ss
 |_,[],ss=>ss
 |j,φ::l,ss=>iL (j+1) l ((j, .keep φ)::ss)
def Tk(ss:Ss):Nat→List AL→Prop
 |_,[]=>True
 |j,_::l=>AG ss j=none∧Tk ss (j+1) l
def iR(rv:Nat→AV)(ss:Ss)(P:Nat→Prop)(H:Ax):List AL→List AV→Prop
 |[],[]=>True
 |φ::l,v::r=>FR rv ss P H φ v∧iR rv ss P H l r
 |_,_=>False
theorem TX{ss:Ss}{S:BM}{k:Nat}: ∀{l:List AL} {j:Nat},k<j→Tk ss j l→Tk ((k,S)::ss) j l
 |[],_,_,_=>trivial
 |_::_,j,hk,h=>⟨by simp only[AG,if_neg (show¬k=j by omega)];exact h.1,TX (by omega) h.2⟩
theorem iK{k:Nat}: ∀{l:List AL} {j:Nat} {ss:Ss},k<j→AG (iL j l ss) k=AG ss k
 |[],_,_,_=>rfl
 |φ::l,j,ss,hk=>by
  rw[iL,iK (by omega)]
  simp only[AG,if_neg (show¬j=k by omega)]
theorem Bx.keepL: ∀{l:List AL} {vs:List AV} {Γ:Cx} {rv:Nat→AV} {fp:Fp} {j:Nat},Bx E Γ rv fp f H→Tk Γ.ss j l→iR rv Γ.ss (Pf E Γ.ss fp H) H l vs→(∀v∈vs,BS v≤H.length)→
  ∃rv' fp',(List.range' j l.length).map rv'=vs∧Mo (iL j l Γ.ss) (List.range' j l.length)∧(∀k,k<j→rv' k=rv k)∧Bx E ⟨Γ.ts,iL j l Γ.ss⟩ rv' fp' f H
 |[],[],Γ,rv,fp,j,I,_,_,_=>⟨rv,fp,rfl,fun _ h=>(by cases h),fun _ _=>rfl,I⟩
 |φ::l,v::vs,Γ,rv,fp,j,I,hf,hv,hm=>by
  obtain⟨rv1,fp1,h1,h2,h3,h4⟩:=I.keepNew hf.1 hv.1 (hm v List.mem_cons_self)
  have key: ∀{l:List AL} {vs:List AV},iR rv Γ.ss (Pf E Γ.ss fp H) H l vs→iR rv1 ((j, .keep φ)::Γ.ss) (Pf E ((j, .keep φ)::Γ.ss) fp1 H) H l vs:=by
   intro l
   induction l with
   |nil=>intro vs h;cases vs<;>exact h
   |cons ψ l ih=>
    intro vs h
    cases vs with
    |nil=>exact h
    |cons w vs=>exact⟨h4 ψ w h.1,ih h.2⟩
  obtain⟨rv2,fp2,g1,g2,g3,g4⟩:=Bx.keepL (l:=l) (vs:=vs) (j:=j+1) h3 (TX (by omega) hf.2) (key hv.2) (fun w hw=>hm w (List.mem_cons_of_mem _ hw))
  refine⟨rv2,fp2,?_,fun k hk=> ?_,fun k hk=>by rw[g3 k (by omega),h2 k (by omega)],g4⟩
  ·rw[List.length_cons,List.range'_succ,List.map_cons,g1,g3 j (by omega),h1]
  ·rw[List.length_cons,List.range'_succ]at hk
   rcases List.mem_cons.1 hk with rfl|hk
   ·rw[iL,iK (by omega)];simp only[AG,if_true];rfl
   ·exact g2 k hk
inductive rK(tb:Dg)(Γ:Cx):List AO→List AL→Prop where
 |nil:rK tb Γ [] []
 |cons {a:AO} {φ:AL} {l:List AO} {r:List AL}:Dd tb Γ a φ→rK tb Γ l r→rK tb Γ (a::l) (φ::r)
theorem rK.spec(I:Bx E Γ rv fp f H): ∀{l:List AO} {r:List AL},rK tb Γ l r→iR rv Γ.ss (Pf E Γ.ss fp H) H r (l.map (eval tb f))
 |_,_, .nil=>trivial
 |_,_, .cons h k=>⟨h E rv fp f H I,k.spec I⟩
def NA:AL→Bool
 | .junk=>false
 |_=>true
theorem iR.men(hp: ∀i,Pf E Γ.ss fp H i→i<H.length)(hi: ∀j,Bi Γ.ss j→BS (rv j)≤H.length): ∀{l:List AL} {vs:List AV},l.all NA=true→iR rv Γ.ss (Pf E Γ.ss fp H) H l vs→ ∀v∈vs,BS v≤H.length
 |[],[],_,_,v,hv=>by cases hv
 |φ::l,w::vs,hj,h,v,hv=>by
  simp only[List.all_cons,Bool.and_eq_true]at hj
  rcases List.mem_cons.1 hv with rfl|hv
  ·exact FR.men hp hi (by rintro rfl;simp[NA]at hj) h.1
  ·exact iR.men hp hi hj.2 h.2 v hv
def OpN(tb:Dg)(Γ:Cx)(d:Option Nat)(o:Im)(Γ':Cx):Prop:=
 ∀E rv fp f H,Bx E Γ rv fp f H→ ∃v u,Bz tb (C1 tb) (eval tb f) H o=some (v,u)∧u.getD H=H∧ ∃rv' fp',Bx E Γ' rv' fp' (put f d v) H
def oneS:Option BM→Bool
 |some (.row _ _)=>true
 |some (.rowk _ _)=>true
 |some (.cells _)=>true
 |some (.dom _ _)=>true
 |_=>false
def szF(ss:Ss):AL→Option Nat
 | .own j=>if oneS (AG ss j)then some 1 else none
 | .val t _=>some t.sz
 | .rp _ _=>some 1
 | .cp _ _=>some 1
 | .ep _ _ _=>some 1
 | .con _=>some 1
 | .fnv _ _ _=>some 1
 |_=>none
def aggF:AL→Bool
 | .val t _=>t.agg
 |_=>false
theorem jF{P:Nat→Prop}{v:AV}(h:ZO P v):cellsOf v=[v]:=by
 cases v<;>simp only[ZO]at h<;>rfl
theorem Vv(I:Bx E Γ rv fp f H){φ:AL}{v:AV}{n:Nat}(hs:szF Γ.ss φ=some n)(h:FR rv Γ.ss (Pf E Γ.ss fp H) H φ v):(cellsOf v).length=n∧HS (aggF φ) (cellsOf v)=some v:=by
 cases φ<;>simp only[szF,Option.some.injEq,reduceCtorEq]at hs
 case own j=>
  split at hs
  ·rename_i ho
   cases hs
   obtain⟨l,rfl⟩:=h
   have hsc:=(I.scal j l).resolve_left (by
    intro hk
    cases e:AG Γ.ss j with
    |none=>rw[e]at ho;cases ho
    |some S=>rw[e]at ho hk;cases S<;>simp only[oneS,D5,Bool.false_eq_true]at ho hk)
   rw[Js hsc];exact⟨rfl,rfl⟩
  ·cases hs
 ·subst hs
  rename_i t x
  have hc:=T.V.cells h
  refine⟨t.len hc,?_⟩
  rcases h with ⟨ha,cs,rfl,_⟩|⟨ha,hr⟩
  ·simp only[aggF,ha];rfl
  ·have:=t.sca hr
   simp only[List.all_cons,List.all_nil,Bool.and_true]at this
   rw[Js this]
   simp only[aggF,ha];rfl
 ·subst hs;rw[jF h.1];exact⟨rfl,rfl⟩
 ·subst hs;obtain⟨_,id,_,rfl⟩:=h;exact⟨rfl,rfl⟩
 ·subst hs;obtain⟨_,id,m,_,_,rfl⟩:=h;exact⟨rfl,rfl⟩
 ·subst hs;obtain⟨rfl,_,hsc⟩:=h;rw[Js hsc];exact⟨rfl,rfl⟩
 ·subst hs;obtain⟨_,rfl⟩:=h;exact⟨rfl,rfl⟩
def VL(ss:Ss):Nat→List (Nat×Nat×AO)→List AL→Option Nat
 |o,[],[]=>some o
 |o,(o',n,_)::r,φ::l=>if o'=o∧szF ss φ=some n then VL ss (o+n) r l else none
 |_,_,_=>none
theorem fU(I:Bx E Γ rv fp f H){rho:AO→AV}: ∀{ps:List (Nat×Nat×AO)} {l:List AL} {o e:Nat} {cs:List AV},VL Γ.ss o ps l=some e→e=cs.length→iR rv Γ.ss (Pf E Γ.ss fp H) H l (ps.map fun p=>rho p.2.2)→
  LN cs rho ps=some (cs.take o++(ps.map fun p=>rho p.2.2).flatMap cellsOf)
 |[],[],o,e,cs,h,he,_=>by
  simp only[VL,Option.some.injEq]at h
  simp only[LN,List.map_nil,List.flatMap_nil,List.append_nil]
  rw[List.take_of_length_le (by omega)]
 |(o',n,a)::ps,φ::l,o,e,cs,h,he,hv=>by
  simp only[VL]at h
  split at h
  ·rename_i hc
   obtain⟨rfl,hs⟩:=hc
   obtain⟨h1,_⟩:=Vv I hs hv.1
   have hle: ∀{ps:List (Nat×Nat×AO)} {l:List AL} {o e:Nat},VL Γ.ss o ps l=some e→o≤e:=by
    intro ps
    induction ps with
    |nil=>intro l o e h;cases l<;>simp only[VL,Option.some.injEq,reduceCtorEq]at h;omega
    |cons q ps ih=>
     intro l o e h
     obtain⟨q1,q2,q3⟩:=q
     cases l with
     |nil=>simp[VL]at h
     |cons φ l=>
      simp only[VL]at h
      split at h
      ·have:=ih h;omega
      ·cases h
   have hb:=hle h
   simp only at h1
   simp only[LN,h1]
   rw[if_pos ⟨trivial,by omega⟩]
   have hlen:(B2 cs o' (cellsOf (rho a))).length=cs.length:=Vx (by omega)
   rw[fU I h (by rw[hlen];exact he) hv.2]
   simp only[List.map_cons,List.flatMap_cons]
   have ht:(B2 cs o' (cellsOf (rho a))).take (o'+n)=cs.take o'++cellsOf (rho a):=by
    simp only[B2]
    rw[List.take_left' (by simp only[List.length_append,List.length_take,h1];omega)]
   rw[ht,List.append_assoc]
  ·cases h
 |[],_::_,_,_,_,h,_,_=>by simp[VL]at h
 |(_,_,_)::_,[],_,_,_,h,_,_=>by simp[VL]at h
theorem Bw{d:Nat}{zero:List AV}{ps:List (Nat×Nat×AO)}{φs:List AL}(j:Nat)(hx:rK tb Γ (ps.map fun p=>p.2.2) φs)(hr:VL Γ.ss 0 ps φs=some zero.length)(hn:φs.all NA=true)(hf:Tk Γ.ss j φs){js:List Nat}(hjs:js=List.range' j φs.length):
  OpN tb Γ (some d) (.bld zero ps) ⟨(d, .aggk js)::Γ.ts,iL j φs Γ.ss⟩:=by
 intro E rv fp f H R
 subst hjs
 have hv:=hx.spec R
 rw[List.map_map]at hv
 have hfill:=fU R (rho:=eval tb f) hr rfl hv
 obtain⟨rv',fp',h1,h2,_,h4⟩:=R.keepL (j:=j) hf hv (iR.men R.ltP R.rvlt hn hv)
 refine⟨.agg (zero.take 0++(ps.map fun p=>eval tb f p.2.2).flatMap cellsOf),none,by simp only[Bz,hfill,val,Option.map_some],rfl,rv',fp',h4.push (d:=d) (φ:= .aggk _) ⟨h2,?_⟩⟩
 have e:((List.range' j φs.length).flatMap fun j=>cellsOf (rv' j))=((List.range' j φs.length).map rv').flatMap cellsOf:=by rw[List.flatMap_map]
 rw[e,h1,List.take_zero,List.nil_append]
 rfl
def pT(ss:Ss):List Nat→Option Nat
 |[]=>some 0
 |j::r=>match AG ss j with
  |some (.keep φ)=>(szF ss φ).bind fun n=>(pT ss r).map (n+ ·)
  |_=>none
theorem SW(I:Bx E Γ rv fp f H): ∀{l:List Nat} {o:Nat},pT Γ.ss l=some o→(l.flatMap fun j=>cellsOf (rv j)).length=o
 |[],o,h=>by simp only[pT,Option.some.injEq]at h;subst h;rfl
 |j::l,o,h=>by
  simp only[pT]at h
  split at h
  ·rename_i φ e
   obtain⟨n,hn,h⟩:=Option.bind_eq_some_iff.1 h
   obtain⟨m,hm,rfl⟩:=Option.map_eq_some_iff.1 h
   rw[List.flatMap_cons,List.length_append,SW I hm,(Vv I hn (I.slots j _ e).1).1]
  ·cases h
theorem BA{js:List Nat}{i j:Nat}(ha:Dd tb Γ a (.tupk js))(hi:js[i]? =some j):Gd tb Γ (.ext a i) (some ()) fun _=> .kv j:=by
 rintro E rv fp f H R _ ⟨⟩
 obtain⟨hk,hv⟩:=ha E rv fp f H R
 have hm:=List.mem_of_getElem? hi
 refine⟨rv j,none,by simp only[Bz,hv,List.getElem?_map,hi,Option.map_some,val],rfl,fun k hk'=>by rw[List.mem_singleton.1 hk'];exact hk j hm,rfl⟩
theorem Bx.keepTemp(I:Bx E Γ rv fp f H){j n:Nat}{φ:AL}(hj:AG Γ.ss j=none)(hn:BI Γ.ts n=some φ)(hφ:NA φ=true): ∃rv' fp',Bx E ⟨(n, .kv j)::Γ.ts,(j, .keep φ)::Γ.ss⟩ rv' fp' f H:=by
 have h:=I.temps n φ hn
 obtain⟨rv',fp',h1,_,h3,_⟩:=I.keepNew hj h (FR.men I.ltP I.rvlt (by rintro rfl;simp[NA]at hφ) h)
 refine⟨rv',fp',h3.le,h3.base,h3.wf,h3.fplt,h3.rvlt,h3.scal,h3.inj,h3.slots,fun t ψ e=> ?_,h3.gh⟩
 simp only[BI]at e
 split at e
 ·rename_i ht
  cases e
  subst ht
  exact⟨fun k hk=>by rw[List.mem_singleton.1 hk];simp only[AG,if_true];rfl,h1.symm⟩
 ·exact h3.temps t ψ e
variable{ks:List Kf}{ρ:Type}{Q:MR ρ}
def BQ{c:AC}(j n:Nat){φ:AL}(hj:AG Γ.ss j=none)(hn:BI Γ.ts n=some φ)(hφ:NA φ=true)(s:Aa tb ⟨(n, .kv j)::Γ.ts,(j, .keep φ)::Γ.ss⟩ c ks Q):Aa tb Γ c ks Q:=
 s.turn fun _ _ _ ⟨_,_,I⟩=>I.keepTemp hj hn hφ
def Ba{q:Bool}{d:Option Nat}{o:Im}{l:List Bl}{Γ':Cx}(h:OpN tb Γ d o Γ')(k:Aa tb Γ' (rg q l) ks Q):Aa tb Γ (rg q (⟨d,none,o⟩::l)) ks Q:=
 ⟨k.m,fun E f H ⟨rv,fp,I⟩ r hr=>by
  obtain⟨v,u,h1,h2,rv',fp',h3⟩:=h E rv fp f H I
  obtain⟨e,f',H',h4,h5⟩:=k.ok E _ _ ⟨rv',fp',h3⟩ r hr
  exact⟨e,f',H',by rw[DW h1 h2];exact h4,h5⟩⟩
end
end Go.Proofs.YtobejhpigbllpaaGreatDoor.Am
namespace Go.Proofs.YtobejhpigbllpaaGreatDoor.Am
inductive Zn where
 |o (a:AO)
 |k (j:Nat)
def cT(tb:Dg)(f:Fr)(rv:Nat→AV):Zn→AV
 | .o a=>eval tb f a
 | .k j=>rv j
def OpS(tb:Dg)(Γ:Cx)(s:Zn)(φ:AL):Prop:= ∀E rv fp f H,Bx E Γ rv fp f H→FR rv Γ.ss (Pf E Γ.ss fp H) H φ (cT tb f rv s)
inductive cB(tb:Dg)(Γ:Cx):List Zn→List AL→Prop where
 |nil:cB tb Γ [] []
 |cons {s:Zn} {φ:AL} {l:List Zn} {r:List AL}:OpS tb Γ s φ→cB tb Γ l r→cB tb Γ (s::l) (φ::r)
def Xu(tb:Dg)(Γ:Cx)(o:Im)(g:Nat)(l:List Zn):Prop:=
 ∀E rv fp f H,Bx E Γ rv fp f H→Bz tb (C1 tb) (eval tb f) H o=B6 tb (C1 tb) H g (l.map (cT tb f rv))
section
variable{tb:Dg}{Γ:Cx}{a b:AO}{E:P4}{rv:Nat→AV}{fp:Fp}{f:Fr}{H:Ax}
theorem IX{φ:AL}(h:Dd tb Γ a φ):OpS tb Γ (.o a) φ:=h
theorem BJ{g:Nat}{xs:List AO}{l:List Zn}(hl:l=xs.map .o):Xu tb Γ (.call g xs) g l:=by
 intro E rv fp f H I
 subst hl
 simp only[Bz,List.map_map];rfl
theorem CG{g:Nat}{x:AO}{xs:List AO}{js ks:List Nat}{l:List Zn}(ha:Dd tb Γ x (.fnv (.func g) js ks))(hl:l=js.map .k++xs.map .o++ks.map .k):Xu tb Γ (.callv x xs) g l:=by
 intro E rv fp f H I
 subst hl
 simp only[Bz,(ha E rv fp f H I).2,List.map_append,List.map_map];rfl
theorem cB.spec(I:Bx E Γ rv fp f H): ∀{l:List Zn} {r:List AL},cB tb Γ l r→iR rv Γ.ss (Pf E Γ.ss fp H) H r (l.map (cT tb f rv))
 |_,_, .nil=>trivial
 |_,_, .cons h k=>⟨h E rv fp f H I,k.spec I⟩
def UW:Nat→List AL→Ts
 |_,[]=>[]
 |k,φ::r=>(k,φ)::UW (k+1) r
def Kh(vs:List AV)(k:Nat):Fr:=(vs.zipIdx k).map fun p=>(p.2,p.1)
theorem Sw{P:Nat→Prop}{ss:Ss}: ∀{r:List AL} {vs:List AV} {k:Nat},iR rv ss P H r vs→ ∀t φ,BI (UW k r) t=some φ→k≤t∧FR rv ss P H φ (get (Kh vs k) t)
 |[],[],_,_,t,φ,e=>by simp[UW,BI]at e
 |ψ::r,v::vs,k,h,t,φ,e=>by
  simp only[UW,BI]at e
  simp only[Kh,List.zipIdx_cons,List.map_cons,get]
  split at e
  ·rename_i hk
   cases e
   subst hk
   exact⟨Nat.le_refl _,by rw[if_pos rfl];exact h.1⟩
  ·rename_i hk
   obtain⟨h1,h2⟩:=Sw (k:=k+1) h.2 t φ e
   exact⟨by omega,by rw[if_neg hk];exact h2⟩
def Gt(J:Nat):Ts→Ss→Ss
 |[],ss=>ss
 |(t,φ)::r,ss=>(J+t, .ghost φ)::Gt J r ss
def PK(Γ:Cx)(J:Nat):Ts→Prop
 |[]=>True
 |(t,φ)::r=>(BI Γ.ts t=some φ∧AG Γ.ss (J+t)=none)∧PK Γ J r
def Jj(J:Nat):Ss→Bool
 |[]=>true
 |(j, .ghost _)::r=>Nat.blt j J&&Jj J r
 |_::r=>Jj J r
theorem NL{J:Nat}: ∀{ss:Ss} {j:Nat} {φ:AL},Jj J ss=true→AG ss j=some (.ghost φ)→j<J
 |[],_,_,_,e=>by simp[AG]at e
 |(u,S)::r,j,φ,h,e=>by
  simp only[AG]at e
  split at e
  ·rename_i hu
   cases e
   simp only[Jj,Bool.and_eq_true]at h
   have:=h.1
   rw[Su]at this
   omega
  ·refine NL (ss:=r) ?_ e
   cases S<;>simp only[Jj,Bool.and_eq_true]at h<;>first|exact h.2|exact h
theorem KD{J:Nat}{ss:Ss}: ∀{l:Ts} {j:Nat},AG (Gt J l ss) j=AG ss j∨ ∃t φ,j=J+t∧BI l t=some φ∧AG (Gt J l ss) j=some (.ghost φ)
 |[],_=> .inl rfl
 |(t,φ)::r,j=>by
  simp only[Gt,AG]
  by_cases hj:J+t=j
  ·rw[if_pos hj]
   exact .inr ⟨t,φ,hj.symm,by simp[BI],rfl⟩
  ·rw[if_neg hj]
   rcases KD (J:=J) (ss:=ss) (l:=r) (j:=j)with h|⟨t',φ',h1,h2,h3⟩
   ·exact .inl h
   ·refine .inr ⟨t',φ',h1,?_,h3⟩
    simp only[BI]
    rw[if_neg (fun e=>hj (by rw[h1,e]))]
    exact h2
theorem Li{J:Nat}: ∀{l:Ts} {t:Nat} {φ:AL},PK Γ J l→BI l t=some φ→BI Γ.ts t=some φ∧AG Γ.ss (J+t)=none
 |[],_,_,_,e=>by simp[BI]at e
 |(u,ψ)::r,t,φ,h,e=>by
  simp only[BI]at e
  split at e
  ·rename_i hu
   cases e
   subst hu
   exact h.1
  ·exact Li h.2 e
theorem Bx.enter(I:Bx E Γ rv fp f H){J:Nat}{L:Ts}{srcs:List Zn}{φs:List AL}(hL:PK Γ J L)(hg:Jj J Γ.ss=true)(ha:cB tb Γ srcs φs):
  Bx {E with g:=fun j=>if J≤j then get f (j-J)else E.g j} ⟨UW 0 φs,Gt J L Γ.ss⟩ rv fp (Kh (srcs.map (cT tb f rv)) 0) H:=by
 have hlv: ∀k,Bi (Gt J L Γ.ss) k↔Bi Γ.ss k:=by
  intro k
  rcases KD (J:=J) (ss:=Γ.ss) (l:=L) (j:=k)with h|⟨t,φ,rfl,h2,h3⟩
  ·simp only[Bi,h]
  ·have:=(Li hL h2).2
   simp only[Bi,h3,this,uT]
 have hkeep: ∀k,D5 (AG (Gt J L Γ.ss) k)=D5 (AG Γ.ss k):=by
  intro k
  rcases KD (J:=J) (ss:=Γ.ss) (l:=L) (j:=k)with h|⟨t,φ,rfl,h2,h3⟩
  ·rw[h]
  ·rw[h3,(Li hL h2).2];rfl
 have hP: ∀i,Pf E Γ.ss fp H i→Pf E (Gt J L Γ.ss) fp H i:=fun i=>Pf.same fun k l=>(hlv k).1 l
 have hFR: ∀φ v,FR rv Γ.ss (Pf E Γ.ss fp H) H φ v→FR rv (Gt J L Γ.ss) (Pf E (Gt J L Γ.ss) fp H) H φ v:=fun φ v h=>
  h.mono (fun i hi=>⟨hP i hi,rfl⟩) fun k _ l=>⟨⟨(hlv k).2 l,fun e=>by rw[hkeep];exact e⟩,rfl⟩
 have hFRs: ∀{l:List AL} {vs:List AV},iR rv Γ.ss (Pf E Γ.ss fp H) H l vs→iR rv (Gt J L Γ.ss) (Pf E (Gt J L Γ.ss) fp H) H l vs:=by
  intro l
  induction l with
  |nil=>intro vs h;cases vs<;>exact h
  |cons φ l ih=>
   intro vs h
   cases vs with
   |nil=>exact h
   |cons v vs=>exact⟨hFR φ v h.1,ih h.2⟩
 refine⟨I.le,I.base,I.wf,fun j i l e=>I.fplt j i ((hlv j).1 l) e,fun j l=>I.rvlt j ((hlv j).1 l),fun j l=>(I.scal j ((hlv j).1 l)).imp (fun e=>by rw[hkeep];exact e) id,fun j k i l l'=>I.inj j k i ((hlv j).1 l) ((hlv k).1 l'),?_,?_,?_⟩
 ·intro j S e
  rcases KD (J:=J) (ss:=Γ.ss) (l:=L) (j:=j)with h|⟨t,φ,rfl,h2,h3⟩
  ·replace e:AG (Gt J L Γ.ss) j=some S:=e
   rw[h]at e
   exact(I.slots j S e).keep rfl rfl (fun i hi=>⟨hP i hi,rfl⟩) (Nat.le_refl _) (fun _ _=>rfl) (fun _ _ _ _ k _ l=>⟨⟨(hlv k).2 l,fun e=>by rw[hkeep];exact e⟩,rfl⟩) (fun _ _ k _ l=>⟨⟨(hlv k).2 l,fun e=>by rw[hkeep];exact e⟩,rfl⟩) (fun _ _ _ k _ l=>⟨⟨(hlv k).2 l,fun e=>by rw[hkeep];exact e⟩,rfl⟩)
  ·replace e:AG (Gt J L Γ.ss) (J+t)=some S:=e
   rw[h3]at e;cases e;trivial
 ·intro t φ e
  exact(Sw (hFRs (ha.spec I)) t φ e).2
 ·intro j φ e
  show FR rv (Gt J L Γ.ss) _ H φ (if J≤j then get f (j-J)else E.g j)
  rcases KD (J:=J) (ss:=Γ.ss) (l:=L) (j:=j)with h|⟨t,ψ,rfl,h2,h3⟩
  ·replace e:AG (Gt J L Γ.ss) j=some (.ghost φ):=e
   rw[h]at e
   have:=NL hg e
   rw[if_neg (by omega)]
   exact hFR φ _ (I.gh j φ e)
  ·replace e:AG (Gt J L Γ.ss) (J+t)=some (.ghost φ):=e
   rw[h3]at e
   cases e
   rw[if_pos (by omega),show J+t-J=t by omega]
   exact hFR _ _ (I.temps t _ (Li hL h2).1)
def QIn{τ:Type}(res:List KK)(Γr:τ→Cx):MR τ:=fun E p e f H=>
 (e= .ret∨e= .normal)∧ ∃vs,results f H res=some vs∧Rel E (Γr p) (Kh vs 0) H
def xA(Γ:Cx)(a:KK)(φ:AL):Prop:= ∀E rv fp f H,Bx E Γ rv fp f H→ ∀r vs,results f H r=some vs→ ∃v,results f H (a::r)=some (v::vs)∧FR rv Γ.ss (Pf E Γ.ss fp H) H φ v
inductive mH(Γ:Cx):List KK→List AL→Prop where
 |nil:mH Γ [] []
 |cons {a:KK} {φ:AL} {l:List KK} {r:List AL}:xA Γ a φ→mH Γ l r→mH Γ (a::l) (φ::r)
theorem mH.spec(I:Bx E Γ rv fp f H): ∀{l:List KK} {r:List AL},mH Γ l r→ ∃vs,results f H l=some vs∧iR rv Γ.ss (Pf E Γ.ss fp H) H r vs
 |_,_, .nil=>⟨[],rfl,trivial⟩
 |_,_, .cons h k=>by
  obtain⟨vs,e,g⟩:=k.spec I
  obtain⟨v,e',g'⟩:=h E rv fp f H I _ vs e
  exact⟨v::vs,e',g',g⟩
theorem CU{n:Nat}{φ:AL}(h:BI Γ.ts n=some φ):xA Γ (.tmp n) φ:=fun _ _ _ _ _ I r vs hr=>⟨_,by simp only[results,hr,Option.map_some],I.temps n _ h⟩
theorem rg_c{t:T}{x:t.α}{ar:KK}(h:xB Γ ar t x):xA Γ ar (.val t x):=h
variable{ks:List Kf}{ρ τ:Type}{Q:MR ρ}
def Ay{res:List KK}{Γr:τ→Cx}{φs:List AL}(p:τ)(h:mH Γ res φs)(hs:Sub (Γr p) ⟨UW 0 φs,Γ.ss⟩):Aa tb Γ .ret ks (QIn res Γr):=
 S3 ⟨some p,fun E f H ⟨rv,fp,I⟩ r hr=>by
  cases hr
  obtain⟨vs,e,g⟩:=h.spec I
  refine⟨.ret,f,H,by simp[Bc,Ip], .inl rfl,vs,e,rv,fp,Bx.sub (Γ:=⟨UW 0 φs,Γ.ss⟩) ?_ hs⟩
  exact⟨I.le,I.base,I.wf,I.fplt,I.rvlt,I.scal,I.inj,I.slots,fun t φ e=>(Sw g t φ e).2,I.gh⟩⟩
def Zp{q:Bool}{res:List KK}{Γr:τ→Cx}{φs:List AL}(p:τ)(h:mH Γ res φs)(hs:Sub (Γr p) ⟨UW 0 φs,Γ.ss⟩):Aa tb Γ (rg q []) [] (QIn res Γr):=
 ⟨some p,fun E f H ⟨rv,fp,I⟩ r hr=>by
  cases hr
  obtain⟨vs,e,g⟩:=h.spec I
  refine⟨.normal,f,H,by simp[DD,Ip], .inr rfl,vs,e,rv,fp,Bx.sub (Γ:=⟨UW 0 φs,Γ.ss⟩) ?_ hs⟩
  exact⟨I.le,I.base,I.wf,I.fplt,I.rvlt,I.scal,I.inj,I.slots,fun t φ e=>(Sw g t φ e).2,I.gh⟩⟩
inductive S4(tsr:Ts):Nat→AL→Prop where
 |none:S4 tsr 0 (.tup [])
 |one {φ:AL}:BI tsr 0=some φ→S4 tsr 1 φ
 |vals {n:Nat} {l:List (Σ t:T,t.α)} (hn:l.length=n+2) (h: ∀(i:Nat) (p: Σ t:T,t.α),l[i]? =some p→BI tsr i=some (.val p.1 p.2)):S4 tsr (n+2) (.tup l)
 |kvs {n:Nat} {js:List Nat} (hn:js.length=n+2) (h: ∀i j,js[i]? =some j→BI tsr i=some (.kv j)):S4 tsr (n+2) (.tupk js)
 |junk {n:Nat}:S4 tsr n .junk
theorem Po{vs:List AV}{i:Nat}{v:AV}(h:vs[i]? =some v):get (Kh vs 0) i=v:=by
 have key: ∀(vs:List AV) (k i:Nat) (v:AV),vs[i]? =some v→get (Kh vs k) (k+i)=v:=by
  intro vs
  induction vs with
  |nil=>intro k i v h;simp at h
  |cons w vs ih=>
   intro k i v h
   simp only[Kh,List.zipIdx_cons,List.map_cons,get]
   cases i with
   |zero=>simp only[List.getElem?_cons_zero,Option.some.injEq]at h;rw[if_pos (by omega)];exact h
   |succ i=>
    rw[if_neg (by omega)]
    have:=ih (k+1) i v (by simpa using h)
    rw[show k+(i+1)=k+1+i by omega]
    exact this
 have:=key vs 0 i v h
 rwa [Nat.zero_add]at this
theorem S4.spec{Γr:Cx}{n:Nat}{φ:AL}{vs:List AV}(I:Bx E Γr rv fp (Kh vs 0) H)(hn:vs.length=n)(h:S4 Γr.ts n φ):FR rv Γr.ss (Pf E Γr.ss fp H) H φ (GE vs):=by
 cases h with
 |none=>
  have:vs=[]:=List.eq_nil_of_length_eq_zero hn
  subst this
  exact⟨[],rfl,trivial⟩
 |one h=>
  match vs,hn with
  |[v],_=>
   have:=I.temps 0 _ h
   rw[Po (i:=0) (v:=v) rfl]at this
   exact this
 | @vals m l hl h=>
  have hp:GE vs= .tup vs:=by
   match vs,hn with
   |_::_::_,_=>rfl
  rw[hp]
  refine⟨vs,rfl,?_⟩
  have key: ∀(vs:List AV) (l:List (Σ t:T,t.α)),vs.length=l.length→(∀(i:Nat) (v:AV) (p: Σ t:T,t.α),vs[i]? =some v→l[i]? =some p→p.1.V (Pf E Γr.ss fp H) H v p.2)→UX (Pf E Γr.ss fp H) H vs l:=by
   intro vs
   induction vs with
   |nil=>intro l h _;cases l<;>first|trivial|simp at h
   |cons v vs ih=>
    intro l h g
    cases l with
    |nil=>simp at h
    |cons p l=>exact⟨g 0 v p rfl rfl,ih l (by simpa using h) fun i w q a b=>g (i+1) w q (by simpa using a) (by simpa using b)⟩
  refine key vs l (by omega) fun i v p a b=> ?_
  have:=I.temps i _ (h i p b)
  rw[Po a]at this
  exact this
 | @kvs m js hl h=>
  have hp:GE vs= .tup vs:=by
   match vs,hn with
   |_::_::_,_=>rfl
  rw[hp]
  have hv:vs=js.map rv:=by
   apply List.ext_getElem?
   intro i
   rcases Nat.lt_or_ge i vs.length with hi|hi
   ·have hj:i<js.length:=by omega
    have:=(I.temps i _ (h i js[i] (List.getElem?_eq_getElem hj))).2
    rw[Po (List.getElem?_eq_getElem hi)]at this
    rw[List.getElem?_eq_getElem hi,List.getElem?_map,List.getElem?_eq_getElem hj,this];rfl
   ·rw[List.getElem?_eq_none hi,List.getElem?_eq_none (by rw[List.length_map];omega)]
  refine⟨fun j hj=> ?_,by rw[hv]⟩
  obtain⟨i,hi,rfl⟩:=List.mem_iff_getElem.1 hj
  exact(I.temps i _ (h i _ (List.getElem?_eq_getElem hi))).1 _ (by simp)
 |junk=>trivial
def Zg(Γr:Cx)(ss:Ss)(J:Nat):Ts→Prop
 |[]=>True
 |(t,φ)::r=>(AG Γr.ss (J+t)=some (.ghost φ)∧Mj ss φ)∧Zg Γr ss J r
structure AM(Γr Γk:Cx)(J:Nat)(d:Option Nat)(n:Nat):Prop where
 ss:rU Γr Γk.ss Γk.ss
 gl:Jj J Γk.ss=true
 ts:match d with
  |none=>Zg Γr Γk.ss J Γk.ts
  |some d=> ∃φ r,Γk.ts=(d,φ)::r∧S4 Γr.ts n φ∧Mj Γk.ss φ∧Zg Γr Γk.ss J r
theorem Au{Γr:Cx}{ss:Ss}{J d n:Nat}{φ:AL}{r:Ts}(h1:rU Γr ss ss)(h2:Jj J ss=true)(h3:S4 Γr.ts n φ)(h4:Mj ss φ)(h5:Zg Γr ss J r):AM Γr ⟨(d,φ)::r,ss⟩ J (some d) n:=⟨h1,h2,φ,r,rfl,h3,h4,h5⟩
theorem Xm{Γr:Cx}{ss:Ss}{J:Nat}: ∀{l:Ts} {t:Nat} {φ:AL},Zg Γr ss J l→BI l t=some φ→AG Γr.ss (J+t)=some (.ghost φ)∧Mj ss φ
 |[],_,_,_,e=>by simp[BI]at e
 |(u,ψ)::r,t,φ,h,e=>by
  simp only[BI]at e
  split at e
  ·rename_i hu;cases e;subst hu;exact h.1
  ·exact Xm h.2 e
theorem Bx.back{Γr Γk:Cx}{J n:Nat}{d:Option Nat}{vs:List AV}{f:Fr}(I:Bx {E with g:=fun j=>if J≤j then get f (j-J)else E.g j} Γr rv fp (Kh vs 0) H)(hn:vs.length=n)(hb:AM Γr Γk J d n):
  Bx E Γk rv fp (put f d (GE vs)) H:=by
 have S:Sub ⟨[],Γk.ss⟩ Γr:=⟨trivial,hb.ss⟩
 have I0:=I.sub S
 have hlv: ∀k,Bi Γk.ss k→Bi Γr.ss k:=by
  intro k l
  cases e:AG Γk.ss k with
  |none=>simp only[Bi,e]at l;exact l.elim
  |some S=>
   have:=(IE hb.ss e).1
   simp only[Bi,e]at l
   simp only[Bi,this];exact l
 have hP: ∀i,Pf E Γr.ss fp H i→Pf E Γk.ss fp H i:=fun i=>Pf.same hlv
 have hsame: ∀φ,Mj Γk.ss φ→TD rv rv Γr.ss Γk.ss φ:=fun φ r j hj l=>by
  have hl:=(VR r j hj).1
  refine⟨⟨hl,fun e=> ?_⟩,rfl⟩
  cases e':AG Γk.ss j with
  |none=>simp only[Bi,e']at hl;exact hl.elim
  |some S=>rw[(IE hb.ss e').1]at e;exact e
 have hFR: ∀φ v,Mj Γk.ss φ→FR rv Γr.ss (Pf E Γr.ss fp H) H φ v→FR rv Γk.ss (Pf E Γk.ss fp H) H φ v:=fun φ v r h=>h.mono (fun i hi=>⟨hP i hi,rfl⟩) (hsame φ r)
 have hback: ∀{l:Ts},Zg Γr Γk.ss J l→ ∀t φ,BI l t=some φ→FR rv Γk.ss (Pf E Γk.ss fp H) H φ (get f t):=by
  intro l hl t φ e
  obtain⟨h1,h2⟩:=Xm hl e
  have:=I.gh _ _ h1
  simp only[if_pos (show J≤J+t by omega),show J+t-J=t by omega]at this
  exact hFR φ _ h2 this
 refine⟨I0.le,I0.base,I0.wf,I0.fplt,I0.rvlt,I0.scal,I0.inj,I0.slots,?_,?_⟩
 ·intro t φ e
  have hts:=hb.ts
  cases d with
  |none=>exact hback hts t φ e
  |some d=>
   obtain⟨ψ,r,hr,h1,h2,h3⟩:=hts
   rw[hr]at e
   simp only[BI]at e
   simp only[put,get]
   split at e
   ·rename_i hd
    cases e
    rw[if_pos hd]
    have h1':=h1.spec I hn
    exact hFR _ _ h2 h1'
   ·rename_i hd
    rw[if_neg hd]
    exact hback h3 t φ e
 ·intro j φ e
  have h1:=NL hb.gl e
  have:=I0.gh j φ e
  simp only[if_neg (show¬J≤j by omega)]at this
  exact this
structure mL(tb:Dg){τ:Type}(Γk:τ→Cx)(c:AC)(ks:List Kf){ρ:Type}(Q:MR ρ) where
 m:τ→Option ρ
 ok: ∀p E f H,Rel E (Γk p) f H→ ∀r,m p=some r→ ∃e f' H',(Bc tb (C1 tb) c f H).bind (Ip tb ks)=some (e,f',H')∧Q E r e f' H'
def mL.one{Γk:τ→Cx}{c:AC}(k:(p:τ)→Aa tb (Γk p) c ks Q):mL tb Γk c ks Q:=⟨fun p=>(k p).m,fun p=>(k p).ok⟩
def mL.alt{σ:Type}{Γ1:τ→Cx}{Γ2:σ→Cx}{c:AC}(k1:mL tb Γ1 c ks Q)(k2:mL tb Γ2 c ks Q):mL tb (Sum.elim Γ1 Γ2) c ks Q:=
 ⟨Sum.elim k1.m k2.m,fun p=>match p with
  | .inl p=>k1.ok p
  | .inr p=>k2.ok p⟩
theorem DJ{σ:Type}{Γ1 Δ1:τ→Cx}{Γ2 Δ2:σ→Cx}{J n:Nat}{d:Option Nat}(h1: ∀p,AM (Γ1 p) (Δ1 p) J d n)(h2: ∀p,AM (Γ2 p) (Δ2 p) J d n): ∀p,AM (Sum.elim Γ1 Γ2 p) (Sum.elim Δ1 Δ2 p) J d n
 | .inl p=>h1 p
 | .inr p=>h2 p
theorem OQ: ∀{l:List KK} {vs:List AV},results f H l=some vs→vs.length=l.length
 |[],vs,h=>by simp only[results,Option.some.injEq]at h;subst h;rfl
 | .tmp t::r,vs,h=>by
  simp only[results]at h
  obtain⟨v,hv,rfl⟩:=Option.map_eq_some_iff.1 h
  simp[OQ hv]
 | .cell ag n t::r,vs,h=>by
  simp only[results]at h
  obtain⟨w,hw,h⟩:=Option.bind_eq_some_iff.1 h
  obtain⟨v,hv,rfl⟩:=Option.map_eq_some_iff.1 h
  simp[OQ hv]
theorem vE{g:Nat}{fn:D7}{o:Im}{d:Option Nat}{srcs:List Zn}{φs:List AL}{J n:Nat}{L:Ts}{Γr Γk:τ→Cx}(hf:tb.prim g=none∧tb.fns g=some fn)(hw:fn.warm=true)(hnp:fn.np=srcs.length)(hn:n=fn.res.length)
  (hc:Xu tb Γ o g srcs) (ha:cB tb Γ srcs φs) (hL:PK Γ J L) (hg:Jj J Γ.ss=true) (s:Aa tb ⟨UW 0 φs,Gt J L Γ.ss⟩ fn.body [] (QIn fn.res Γr)) (hb: ∀p,AM (Γr p) (Γk p) J d n) (I:Bx E Γ rv fp f H) {p:τ} (hp:s.m=some p):
  ∃v H',Bz tb (C1 tb) (eval tb f) H o=some (v,some H')∧Rel E (Γk p) (put f d v) H':=by
 have R:=I.enter (tb:=tb) hL hg ha
 obtain⟨e,f',H',h1,h2,vs,h3,rv',fp',h4⟩:=s.ok _ _ _ ⟨_,_,R⟩ p hp
 have h1':Bc tb (C1 tb) fn.body (Kh (srcs.map (cT tb f rv)) 0) H=some (e,f',H'):=by
  obtain⟨q,hq,h1⟩:=Option.bind_eq_some_iff.1 h1
  rw[hq,←h1];rfl
 have hbody:body tb (C1 tb) fn (srcs.map (cT tb f rv)) H=some (GE vs,some H'):=by
  have:=Ok (tb:=tb) (h:=H) (fn:=fn) (args:=srcs.map (cT tb f rv)) (by rw[List.length_map,hnp]) rfl h1' h2 h3
  rw[this,hw];rfl
 refine⟨GE vs,H',?_,rv',fp',h4.back (by rw[hn];exact OQ h3) (hb p)⟩
 rw[hc E rv fp f H I]
 simp only[B6,hf.1]
 rw[Pv,hf.2]
 exact hbody
def Aa.inl{g:Nat}{fn:D7}{o:Im}{d:Option Nat}{rest:List Bl}{srcs:List Zn}{φs:List AL}{n:Nat}{L:Ts}{Γr:τ→Cx}(J:Nat)(Γk:τ→Cx)(hf:tb.prim g=none∧tb.fns g=some fn)(hw:fn.warm=true)(hnp:fn.np=srcs.length)(hn:n=fn.res.length)
  (hc:Xu tb Γ o g srcs) (ha:cB tb Γ srcs φs) (hL:PK Γ J L) (hg:Jj J Γ.ss=true) (s:Aa tb ⟨UW 0 φs,Gt J L Γ.ss⟩ fn.body [] (QIn fn.res Γr)) (hb: ∀p,AM (Γr p) (Γk p) J d n) (k:mL tb Γk (rg false rest) ks Q):Aa tb Γ (rg false (⟨d,none,o⟩::rest)) ks Q:=
 ⟨s.m.bind k.m,fun E f H ⟨rv,fp,I⟩ r hr=>by
  obtain⟨p,hp,hr⟩:=Option.bind_eq_some_iff.1 hr
  obtain⟨v,H',h1,h2⟩:=vE hf hw hnp hn hc ha hL hg s hb I hp
  obtain⟨e,f',H2,h4,h5⟩:=k.ok p E _ _ h2 r hr
  exact⟨e,f',H2,by rw[Ki h1];exact h4,h5⟩⟩
def A0.inl{g:Nat}{fn:D7}{o:Im}{d:Option Nat}{rest:List Bl}{w:List (Option (Nat×Nat))}{N k:Nat}{B:List Ob}{C C':List Cb}{srcs:List Zn}{φs:List AL}{n:Nat}{L:Ts}{Γr:τ→Cx}(hq:qZ B C' d=true)(hcn:LX Γ k C C')(J:Nat)(Γk:τ→Cx)(hO: ∀p,Yv tb (Γk p) B)(hf:tb.prim g=none∧tb.fns g=some fn)(hw:fn.warm=true)(hnp:fn.np=srcs.length)(hn:n=fn.res.length)
  (hc:Xu tb Γ o g srcs) (ha:cB tb Γ srcs φs) (hL:PK Γ J L) (hg:Jj J Γ.ss=true) (s:Aa tb ⟨UW 0 φs,Gt J L Γ.ss⟩ fn.body [] (QIn fn.res Γr)) (hb: ∀p,AM (Γr p) (Γk p) J d n) (t:(p:τ)→A0 tb (Γk p) N (k+1) (lR B) C' rest w ks Q):A0 tb Γ N k B C (⟨d,none,o⟩::rest) (none::w) ks Q:=
 CE hq hO hcn (a:=s.m) (Γ':=Γk) (fun E rv fp f H I p hp=>by
  obtain⟨v,H',h1,rv',fp',h2⟩:=vE hf hw hnp hn hc ha hL hg s hb I hp
  exact⟨v,some H',h1,rv',fp',h2⟩) t
inductive iN(tb:Dg)(Γ:Cx):(As:List T)→List Zn→CF As→Prop where
 |nil:iN tb Γ [] [] ()
 |one {t:T} {s:Zn} {x:t.α}:OpS tb Γ s (.val t x)→iN tb Γ [t] [s] x
 |cons {t u:T} {As:List T} {s:Zn} {l:List Zn} {x:t.α} {y:CF (u::As)}:OpS tb Γ s (.val t x)→iN tb Γ (u::As) l y→iN tb Γ (t::u::As) (s::l) (x,y)
theorem iN.spec(R:Bx E Γ rv fp f H): ∀{As:List T} {l:List Zn} {x:CF As},iN tb Γ As l x→Uw (Pf E Γ.ss fp H) H As (l.map (cT tb f rv)) x
 |_,_,_, .nil=>rfl
 |_,_,_, .one h=>⟨_,rfl,h E rv fp f H R⟩
 |_,_,_, .cons h k=>⟨_,_,rfl,h E rv fp f H R,k.spec R⟩
theorem Aa7{g:Nat}{As Rs:List T}{F:CF As→Option (CF Rs)}{o:Im}{l:List Zn}{x:CF As}(sp:Spec tb g As Rs F)(hc:Xu tb Γ o g l)(hx:iN tb Γ As l x):Gd tb Γ o (F x) fun r=>sX Rs r:=by
 intro E rv fp f H R r hr
 obtain⟨v,u,h1,h2,h3⟩:=(sp (Pf E Γ.ss fp H) H _ x R.ltP R.wf (hx.spec R) r hr).call
 exact⟨v,u,by rw[hc E rv fp f H R];exact h1,h2,We h3⟩
theorem Iu{g:Nat}{As:List T}{t:T}{F:CF As→Option (CF [t])}{o:Im}{l:List Zn}{x:CF As}(sp:Spec tb g As [t] F)(hc:Xu tb Γ o g l)(hx:iN tb Γ As l x):Gd tb Γ o (F x) fun r:t.α=> .val t r:=Aa7 sp hc hx
theorem Ps{lv:List Nat}{x:AC}:Bc tb (C1 tb) (.loop lv x) f H=(Bc tb (C1 tb) x (keepL lv f) H).bind fun
  |(.normal,f',h')=>Bc tb (C1 tb) (.loop lv x) (keepL lv f') h'
  |r=>some r:=by
 simp only[Bc]
 rw[lp_eq]
 simp only[K4]
 cases Bc tb (C1 tb) x (keepL lv f) H with
 |none=>rfl
 |some p=>
  obtain⟨e,f',h'⟩:=p
  cases e<;>rfl
end
end Go.Proofs.YtobejhpigbllpaaGreatDoor.Am
namespace Go.Proofs.YtobejhpigbllpaaGreatDoor.Am
section
variable{tb:Dg}{Γ:Cx}{a b:AO}{E:P4}{rv:Nat→AV}{fp:Fp}{f:Fr}{H:Ax}{ks:List Kf}{ρ:Type}{Q:MR ρ}
theorem jZ{lv:List Nat}{f:Fr}:keepL lv (keepL lv f)=keepL lv f:=by
 simp only[keepL]
 apply List.map_congr_left
 intro t ht
 rw[show(lv.map fun t=>(t,get f t))=keepL lv f from rfl,QT ht]
theorem WU{lv:List Nat}{x:AC}:Bc tb (C1 tb) (.loop lv x) (keepL lv f) H=Bc tb (C1 tb) (.loop lv x) f H:=by
 rw[Ps,Ps,jZ]
def AP{lv:List Nat}{x:AC}{Γ':Cx}(hs:Sub Γ' Γ)(hl:eF lv Γ'.ts=true)(s:Aa tb Γ' x (.seq (.loop lv x)::ks) Q):Aa tb Γ (.loop lv x) ks Q:=
 ⟨s.m,fun E f H ⟨rv,fp,I⟩ r hr=>by
  obtain⟨e,f',H',h1,h2⟩:=s.ok E (keepL lv f) H (Rel.keep hl ⟨rv,fp,I.sub hs⟩) r hr
  refine⟨e,f',H',?_,h2⟩
  rw[Ps]
  obtain⟨p,hp,h1⟩:=Option.bind_eq_some_iff.1 h1
  obtain⟨e0,f0,H0⟩:=p
  rw[hp]
  cases e0<;>simp only[Option.bind_some,Ip]at h1 ⊢
  ·rw[WU];exact h1
  ·exact h1
  ·exact h1⟩
theorem Br{o:Im}{t:T}{x y:t.α}(h:Gd tb Γ o (some x) fun z=> .val t z)(e:x=y):Gd tb Γ o (some ()) fun _=> .val t y:=by
 rintro E rv fp f H R _ ⟨⟩
 obtain⟨v,u,h1,h2,h3⟩:=h E rv fp f H R x rfl
 exact⟨v,u,h1,h2,e▸h3⟩
inductive rL(tb:Dg)(Γ:Cx)(sz:Nat):Nat→List (Nat×AO)→List (List Nat)→Prop where
 |nil {i:Nat}:rL tb Γ sz i [] []
 |cons {i:Nat} {a:AO} {js:List Nat} {ps:List (Nat×AO)} {l:List (List Nat)}:Dd tb Γ a (.aggk js)→pT Γ.ss js=some sz→rL tb Γ sz (i+1) ps l→rL tb Γ sz i ((i,a)::ps) (js::l)
theorem rL.spec{sz:Nat}(I:Bx E Γ rv fp f H): ∀{i:Nat} {ps:List (Nat×AO)} {l:List (List Nat)} {els:List (List AV)},rL tb Γ sz i ps l→i+l.length=els.length→
  KG els sz (eval tb f) ps=some (els.take i++l.map fun js=>js.flatMap fun j=>cellsOf (rv j))∧Mo Γ.ss l.flatten
 |i,_,_,els, .nil,hl=>by
  simp only[List.length_nil]at hl
  exact⟨by simp only[KG,List.map_nil,List.append_nil];rw[List.take_of_length_le (by omega)],fun j hj=>(by cases hj)⟩
 |i,_,_,els, .cons (a:=a) (js:=js) (l:=l) h ho k,hl=>by
  obtain⟨hk,hv⟩:=h E rv fp f H I
  have hlen:=SW I ho
  simp only[List.length_cons]at hl
  obtain⟨h1,h2⟩:=k.spec I (els:=els.set i (js.flatMap fun j=>cellsOf (rv j))) (by rw[List.length_set];omega)
  refine⟨?_,fun j hj=> ?_⟩
  ·have hc:cellsOf (eval tb f a)=js.flatMap fun j=>cellsOf (rv j):=by rw[hv];rfl
   simp only[KG,hc]
   rw[if_pos ⟨hlen,by omega⟩,h1,List.take_succ_eq_append_getElem (by rw[List.length_set];omega),List.take_set_of_le (Nat.le_refl _),List.getElem_set_self,List.map_cons,List.append_assoc]
   rfl
  ·rw[List.flatten_cons]at hj
   rcases List.mem_append.1 hj with hj|hj
   ·exact hk j hj
   ·exact h2 j hj
theorem EX{zero:List (List AV)}{d t0 sz:Nat}{ps:List (Nat×AO)}{l:List (List Nat)}(j:Nat)(h:rL tb Γ sz 0 ps l)(hz:zero.length=l.length)(hj:AG Γ.ss j=none):
  Xs tb Γ (some d) (.bls t0 sz zero ps) (some ()) fun _=>⟨(d, .own j)::Γ.ts,(j, .rowk sz l)::Γ.ss⟩:=by
 rintro E rv fp f H R _ ⟨⟩
 obtain⟨h1,h2⟩:=h.spec R (els:=zero) (by omega)
 rw[List.take_zero,List.nil_append]at h1
 have hm:Di (l.map fun js=>js.flatMap fun j=>cellsOf (rv j))≤H.length:=by
  clear h h1 hz
  induction l with
  |nil=>simp[Di]
  |cons js l ih=>
   simp only[List.map_cons,Di]
   have:=ih fun j hj=>h2 j (by simp only[List.flatten_cons,List.mem_append];exact .inr hj)
   have:=(L4 R.rvlt (l:=js) fun j hj=>h2 j (by simp only[List.flatten_cons,List.mem_append];exact .inl hj)).2
   omega
 obtain⟨rv',fp',g1,g2,g3⟩:=R.more (j:=j) (S:= .rowk sz l) (v:= .orow H.length l.length 0 l.length) (o:= .row (some t0) false sz (l.map fun js=>js.flatMap fun j=>cellsOf (rv j))) (HY hj) (by simp only[ED];omega) rfl (by simp[BS]) rfl fun rv' fp' e1 e2 hP hs=>by
  have hsame: ∀k∈l.flatten,Bi Γ.ss k→(Bi ((j, .rowk sz l)::Γ.ss) k∧(D5 (AG Γ.ss k)=true→D5 (AG ((j, .rowk sz l)::Γ.ss) k)=true))∧rv' k=rv k:=fun k hk lk=>hs (.aggk l.flatten) k (fun hn=>hn hk) lk
  refine⟨(HE (rv:=rv) (rv':=rv') h2 hsame).1,H.length,e1,e2,?_⟩
  have:(l.map fun js=>js.flatMap fun j=>cellsOf (rv' j))=l.map fun js=>js.flatMap fun j=>cellsOf (rv j):=by
   apply List.map_congr_left
   intro js hjs
   exact(HE (rv:=rv) (rv':=rv') (ss':=(j, .rowk sz l)::Γ.ss) (fun j hj=>h2 j (List.mem_flatten.2 ⟨js,hjs,hj⟩)) fun k hk=>hsame k (List.mem_flatten.2 ⟨js,hjs,hk⟩)).2.2
  rw[this]
  simp[rowAt]
 refine⟨.orow H.length l.length 0 l.length,some (H++[BW.row (some t0) false sz (l.map fun js=>js.flatMap fun j=>cellsOf (rv j))]),by simp only[Bz,h1,Option.map_some,List.length_map],rv',fp',g3.push (d:=d) (φ:= .own j) ⟨g2,g1.symm⟩⟩
theorem ES{sz j n:Nat}{l:List (List Nat)}(ha:Dd tb Γ a (.own j))(hj:AG Γ.ss j=some (.rowk sz l))(hn:n=l.length):Gd tb Γ (.len a) (some ()) fun _=> .val (T.int .i64) (n:Int):=by
 rintro E rv fp f H R _ ⟨⟩
 obtain⟨_,hv⟩:=ha E rv fp f H R
 obtain⟨_,id,h1,_,h3⟩:=R.slots j _ hj
 subst hn
 exact⟨_,none,by simp only[Bz,hv,h1,Pb,Option.map_some],rfl,Cr.2 rfl⟩
theorem DK{sz sz' j i:Nat}{n:Int}{k:IntKind}{l:List (List Nat)}(ha:Dd tb Γ a (.own j))(hj:AG Γ.ss j=some (.rowk sz l))(hs:sz'=sz)(hb:Dd tb Γ b (.val (T.int k) n))(hi:n=i)(hl:i<l.length):Gd tb Γ (.ias sz' a b) (some ()) fun _=> .ep j i 0:=by
 rintro E rv fp f H R _ ⟨⟩
 obtain⟨lv,hv⟩:=ha E rv fp f H R
 obtain⟨_,id,h1,_,h3⟩:=R.slots j _ hj
 subst hs hi
 refine⟨.pe id l.length (0+i) 0,none,?_,rfl,lv,id,l.length,h1,hl,by rw[Nat.zero_add]⟩
 simp only[Bz,hv,h1,Cr.1 (hb E rv fp f H R),Il,Option.bind_some]
 rw[if_pos (by omega)]
 simp[W8,EP,h3,hl,val]
theorem Fw{sz n j i:Nat}{l:List (List Nat)}{js:List Nat}(ha:Dd tb Γ a (.ep j i 0))(hj:AG Γ.ss j=some (.rowk sz l))(hi:l[i]? =some js)(hn:pT Γ.ss js=some n):Gd tb Γ (.ld true n a) (some ()) fun _=> .aggk js:=by
 rintro E rv fp f H R _ ⟨⟩
 obtain⟨lv,id,m,e,_,hv⟩:=ha E rv fp f H R
 obtain⟨h0,id',h1,_,h3⟩:=R.slots j _ hj
 rw[e]at h1
 cases h1
 have hlen:=SW R hn
 refine⟨.agg (js.flatMap fun j=>cellsOf (rv j)),none,?_,rfl,fun k hk=>h0 k (List.mem_flatten.2 ⟨js,List.mem_of_getElem? hi,hk⟩),rfl⟩
 have hg:(l.map fun js=>js.flatMap fun j=>cellsOf (rv j))[i]? =some (js.flatMap fun j=>cellsOf (rv j)):=by rw[List.getElem?_map,hi];rfl
 simp only[Bz,hv,load,place,h3,Option.bind_some,List.length_map,if_true,val]
 rw[Tx hg,cS (by omega),if_pos (by rw[List.length_append];omega)]
 simp only[sub,List.drop_zero]
 rw[List.take_of_length_le (by omega)]
 rfl
end
end Go.Proofs.YtobejhpigbllpaaGreatDoor.Am
namespace Go.Proofs.YtobejhpigbllpaaGreatDoor.Am
theorem N1{tb:Dg}{q:Bool}{g:Nat}{w:Bool}{R:List Bl}: ∀{l:List Bl} {f:Fr} {H:Ax},get f g= .b w→g∉HA l→Bc tb (C1 tb) (rg q (l.map (gd g w)++R)) f H=Bc tb (C1 tb) (rg q (l++R)) f H
 |[],_,_,_,_=>rfl
 |o::l,f,H,h,hn=>by
  have hd:o.d≠some g:=fun e=>hn (by simp[HA,e])
  have hn':g∉HA l:=fun e=>hn (by
   simp only[HA,List.filterMap_cons]at e ⊢
   cases o.d<;>simp[e])
  have hwt:wanted f (gd g w o).g=wanted f o.g:=by
   cases ho:o.g with
   |none=>simp[gd,ho,wanted,h]
   |some p=>simp[gd,ho]
  have hoo:(gd g w o).o=o.o:=by cases ho:o.g<;>simp[gd,ho]
  have hod:(gd g w o).d=o.d:=by cases ho:o.g<;>simp[gd,ho]
  have ih: ∀v H',Bc tb (C1 tb) (rg q (l.map (gd g w)++R)) (put f o.d v) H'=Bc tb (C1 tb) (rg q (l++R)) (put f o.d v) H':=fun v H'=>N1 (by rw[wanted_put (w:=w) hd];exact h) hn'
  cases q with
  |true=>
   have ih': ∀v H',Ir tb (C1 tb) H' (l.map (gd g w)++R) (put f o.d v)=Ir tb (C1 tb) H' (l++R) (put f o.d v):=fun v H'=>by
    have:=ih v H'
    simp only[rg,if_true,Bc]at this
    cases h1:Ir tb (C1 tb) H' (l.map (gd g w)++R) (put f o.d v)<;>cases h2:Ir tb (C1 tb) H' (l++R) (put f o.d v)<;>simp_all
   simp only[rg,if_true,Bc,List.map_cons,List.cons_append,Ir,hwt,hoo,hod,ih']
  |false=>
   have ih': ∀v H',ops tb (C1 tb) (l.map (gd g w)++R) (put f o.d v) H'=ops tb (C1 tb) (l++R) (put f o.d v) H':=fun v H'=>by
    have:=ih v H'
    simp only[rg,Bool.false_eq_true,if_false,Bc]at this
    cases h1:ops tb (C1 tb) (l.map (gd g w)++R) (put f o.d v) H'<;>cases h2:ops tb (C1 tb) (l++R) (put f o.d v) H'<;>simp_all [Prod.ext_iff]
   simp only[rg,Bool.false_eq_true,if_false,Bc,List.map_cons,List.cons_append,ops,hwt,hoo,hod,ih']
section
variable{tb:Dg}{Γ:Cx}{a b:AO}{ks:List Kf}{ρ:Type}{Q:MR ρ}
def Aa.andI{q:Bool}{L l rest:List Bl}{g t d:Nat}{b:Bool}(Γk:Cx)(n:Nat)(og:BI Γ.ts g=some (.val T.b b))(h:JK g true n L=some (l,⟨some d,none, .pick (.t g) (.t t) (.k (.b false))⟩::rest))(hc:Si g l Γ.ts=true)(hs: ∀z,Sub (Γk.push d (.val T.b z)) (Γ.push d (.val T.b z)))
  (k:(z:Bool)→Aa tb (Γk.push d (.val T.b z)) (rg q rest) ks Q)
  (main:((z:Bool)→Aa tb (Γk.push d (.val T.b z)) (rg q rest) ks Q)→Aa tb (Γ.push g (.val T.b true)) (rg q (l++⟨some d,none, .pick (.t g) (.t t) (.k (.b false))⟩::rest)) ks Q):Aa tb Γ (rg q L) ks Q:=
 ⟨if b=true then(main k).m else(k false).m,fun E f H ⟨rv,fp,I⟩ r hr=>by
  have hL:=G5 h
  simp only[Si,Bool.and_eq_true,Bool.not_eq_true']at hc
  obtain⟨hc1,hc2,hc3⟩:=hc
  have hg:=Fz.1 (I.temps g _ og)
  have hng:=II hc2
  cases b with
  |true=>
   obtain⟨e,f',H',h4,h5⟩:=(main k).ok E f H ⟨rv,fp,I.le,I.base,I.wf,I.fplt,I.rvlt,I.scal,I.inj,I.slots,fun u φ e=>by
    simp only[Cx.push,BI]at e
    split at e
    ·rename_i hu;cases e;subst hu;exact Fz.2 hg
    ·exact I.temps u φ e,I.gh⟩ r (by simpa using hr)
   exact⟨e,f',H',by rw[hL,N1 hg hng];exact h4,h5⟩
  |false=>
   obtain⟨f',h1,h2⟩:=Mh (tb:=tb) (q:=q) (w:=true) (H:=H) hg hng hc1 (by simp)
   have hp:Bz tb (C1 tb) (eval tb f') H (.pick (.t g) (.t t) (.k (.b false)))=some (.b false,none):=by
    simp only[Bz,eval,h2 g hng,hg];rfl
   have I':Bx E Γ rv fp f' H:=I.fr fun u φ e=>h2 u (HT hc3 e)
   obtain⟨e,f2,H2,h4,h5⟩:=(k false).ok E _ H ⟨rv,fp,(VX I').sub (hs _)⟩ r (by simpa using hr)
   exact⟨e,f2,H2,by rw[hL,E9 h1,DW hp rfl];exact h4,h5⟩⟩
theorem NK{n:Nat}{t:T}{zero:List AV}{ps:List (Nat×Nat×AO)}(z:Ar t.α n)(hz:zero=(T.arr n t).zc)(h:mN tb Γ (T.arr n t) ps (T.arr n t).z z):Gd tb Γ (.bld zero ps) (some ()) fun _=> .val (T.arr n t) z:=by
 rintro E rv fp f H R _ ⟨⟩
 exact CZ hz rfl h E rv fp f H R z rfl
theorem Nj{sz:Nat}: ∀{l:List (List AV)} {i:Nat},(∀e∈l,e.length=sz)→i≤l.length→l.flatten.take (i*sz)=(l.take i).flatten∧l.flatten.drop (i*sz)=(l.drop i).flatten
 |l,0,_,_=>by simp
 |[],i+1,_,h=>by simp at h
 |d::l,i+1,hl,h=>by
  have h1:=hl d List.mem_cons_self
  obtain⟨a,b⟩:=Nj (l:=l) (i:=i) (fun e he=>hl e (List.mem_cons_of_mem _ he)) (by simpa using h)
  have hs:(i+1)*sz=d.length+i*sz:=by rw[Nat.succ_mul];omega
  constructor
  ·rw[List.flatten_cons,hs,List.take_append,List.take_of_length_le (by omega),Nat.add_sub_cancel_left,a];simp
  ·rw[List.flatten_cons,hs,←List.drop_drop,List.drop_left' rfl,b];simp
theorem kV{sz k m:Nat}{l:List (List AV)}(hl: ∀e∈l,e.length=sz)(h:k+m≤l.length):sub l.flatten (k*sz) (m*sz)=((l.drop k).take m).flatten:=by
 simp only[sub]
 rw[(Nj hl (i:=k) (by omega)).2,(Nj (fun e he=>hl e (List.mem_of_mem_drop he)) (i:=m) (by rw[List.length_drop];omega)).1]
theorem fS{sz:Nat}{l:List (List AV)}(hl: ∀e∈l,e.length=sz):l.flatten.length=l.length*sz:=by
 induction l with
 |nil=>simp
 |cons d l ih=>
  have:=ih fun e he=>hl e (List.mem_cons_of_mem _ he)
  have:=hl d List.mem_cons_self
  simp only[List.flatten_cons,List.length_append,List.length_cons,Nat.succ_mul];omega
theorem aT{sz i:Nat}{l dss:List (List AV)}(hl: ∀e∈l,e.length=sz)(hd: ∀e∈dss,e.length=sz)(h:i+dss.length≤l.length):B2 l.flatten (i*sz) dss.flatten=(l.take i++dss++l.drop (i+dss.length)).flatten:=by
 simp only[B2,List.flatten_append]
 rw[(Nj hl (i:=i) (by omega)).1,fS hd,←Nat.add_mul,(Nj hl (i:=i+dss.length) h).2]
def TE(n:Nat)(t:T)(k m:Nat)(hkm:k+m≤n):AZ (T.arr n t) (T.arr m t) (k*t.sz) where
 get:=fun x=>⟨(x.l.drop k).take m,by rw[List.length_take,List.length_drop,x.len];omega⟩
 put:=fun x y=>⟨x.l.take k++y.l++x.l.drop (k+m),by rw[List.length_append,List.length_append,List.length_take,List.length_drop,x.len,y.len];omega⟩
 le:=by
  show k*t.sz+m*t.sz≤n*t.sz
  rw[←Nat.add_mul];exact Nat.mul_le_mul_right _ hkm
 getR:=fun{P H cs x} ⟨css,e,h⟩=>by
  refine⟨(css.drop k).take m,?_,h.drop.take⟩
  have hlen:=h.length
  have hx:=x.len
  rw[e]
  exact kV h.lens (by omega)
 putR:=fun{P H cs x c y} ⟨css,e,h⟩ ⟨dss,e',h'⟩=>by
  refine⟨css.take k++dss++css.drop (k+m),?_,(h.take.app h').app h.drop⟩
  have hlen:=h.length
  have hx:=x.len
  have hlen':=h'.length
  have hy:=y.len
  rw[e,e']
  have:=aT (dss:=dss) h.lens h'.lens (i:=k) (by omega)
  rw[this,show dss.length=m by omega]
theorem Th{j off n sz:Nat}{ps:List (Nat×AL)}{lo hi:Option AO}{l h:Option Int}(hj:AG Γ.ss j=some (.cells ps))(hle:Nat.ble (off+n*sz) (TK ps)=true)(ha:Dd tb Γ a (.cp j off))(hl:rJ tb Γ lo l)(hh:rJ tb Γ hi h):
  Gd tb Γ (.sla n sz a lo hi) (PW n l h) fun p=> .oc j (off+p.1*sz) sz (p.2-p.1):=by
 intro E rv fp f H I p hp
 obtain⟨lv,id,e,hv⟩:=ha E rv fp f H I
 obtain⟨cs,h0,h2,h3⟩:=Hh I hj e
 have hs:=PR.length h3
 have hle:=Nat.le_of_ble_eq_true hle
 refine⟨.ocel sz id (off+p.1*sz) (p.2-p.1),none,?_,rfl,lv,id,e,rfl⟩
 simp only[Bz,hv]
 rw[T6 hl hh I,hp]
 simp only[Option.bind_some,oJ,h2]
 rw[if_pos (by omega)]
 rfl
theorem Pj{j off n sz k m o' c:Nat}{ps:List (Nat×AL)}{lo hi:Option AO}{l h:Option Int}(hj:AG Γ.ss j=some (.cells ps))(hle:Nat.ble (off+n*sz) (TK ps)=true)(ha:Dd tb Γ a (.cp j off))(hl:rJ tb Γ lo l)(hh:rJ tb Γ hi h)
  (hb:PW n l h=some (k,m)) (ho:off+k*sz=o') (hc:m-k=c):Gd tb Γ (.sla n sz a lo hi) (some ()) fun _=> .oc j o' sz c:=by
 rintro E rv fp f H I _ ⟨⟩
 subst ho hc
 exact Th hj hle ha hl hh E rv fp f H I (k,m) hb
theorem rB{n:Nat}{h:Option Int}{p:Nat×Nat}(e:PW n none h=some p):p.1=0∧p.2≤n:=by
 have h2:=(wS e).2
 unfold PW at e
 obtain⟨u,hu,e⟩:=Option.bind_eq_some_iff.1 e
 obtain⟨l,hl,e⟩:=Option.bind_eq_some_iff.1 e
 cases hl
 cases e
 exact⟨rfl,h2⟩
theorem aN{j off n sz:Nat}{ps:List (Nat×AL)}{hi:Option AO}{h:Option Int}(hj:AG Γ.ss j=some (.cells ps))(hle:Nat.ble (off+n*sz) (TK ps)=true)(ha:Dd tb Γ a (.cp j off))(hh:rJ tb Γ hi h):
  Gd tb Γ (.sla n sz a none hi) ((PW n none h).map fun p=>p.2) fun m=> .oc j off sz m:=by
 intro E rv fp f H I m hm
 obtain⟨p,hp,rfl⟩:=Option.map_eq_some_iff.1 hm
 have:=Th hj hle ha .none hh E rv fp f H I p hp
 simp only[(rB hp).1,Nat.zero_mul,Nat.add_zero,Nat.sub_zero]at this
 exact this
theorem vH{j off len sz n:Nat}(ha:Dd tb Γ a (.oc j off sz len))(hn:Nat.ble n len=true):Gd tb Γ (.s2a n sz a) (some ()) fun _=> .cp j off:=by
 rintro E rv fp f H I _ ⟨⟩
 obtain⟨lv,id,e,hv⟩:=ha E rv fp f H I
 have hn:=Nat.le_of_ble_eq_true hn
 exact⟨.ptr id off,none,by simp only[Bz,hv,Uu];rw[if_pos ⟨trivial,hn⟩];rfl,rfl,lv,id,e,rfl⟩
theorem h_lenC{j off len sz:Nat}(ha:Dd tb Γ a (.oc j off sz len)):Gd tb Γ (.len a) (some (len:Int)) fun n=> .val (T.int .i64) n:=by
 rintro E rv fp f H I _ ⟨⟩
 obtain⟨lv,id,e,hv⟩:=ha E rv fp f H I
 exact⟨.i .i64 len,none,by simp only[Bz,hv,Pb,Option.map_some],rfl,Cr.2 rfl⟩
theorem h_iasC{j off len sz:Nat}{k:IntKind}{i:Int}{ps:List (Nat×AL)}(hj:AG Γ.ss j=some (.cells ps))(hle:off+len*sz≤TK ps)(ha:Dd tb Γ a (.oc j off sz len))(hb:Dd tb Γ b (.val (T.int k) i)):
  Gd tb Γ (.ias sz a b) (Dl len i) fun m=> .cp j (off+m*sz):=by
 intro E rv fp f H I m hm
 obtain⟨h0,rfl,h1⟩:=YM hm
 obtain⟨lv,id,e,hv⟩:=ha E rv fp f H I
 obtain⟨cs,g0,g2,g3⟩:=Hh I hj e
 have hs:=PR.length g3
 have hcl: ∀(n:Nat) (l:List AV),(BK sz n l).length=n:=by
  intro n
  induction n with
  |zero=>intro l;rfl
  |succ n ih=>intro l;simp[BK,ih]
 refine⟨.ptr id (off+i.toNat*sz),none,?_,rfl,lv,id,e,rfl⟩
 simp only[Bz,hv,Cr.1 (hb E rv fp f H I),Il,Option.bind_some,if_pos h0,W8,EP,g2]
 rw[if_pos ⟨trivial,by omega⟩]
 simp only[Option.bind_some,hcl]
 rw[if_pos (by omega)]
 rfl
theorem I9{j off len sz:Nat}{k:IntKind}{i:Int}{ps:List (Nat×AL)}(N:Nat)(hj:AG Γ.ss j=some (.cells ps))(hN:N=TK ps)(ha:Dd tb Γ a (.oc j off sz len))(hb:Dd tb Γ b (.val (T.int k) i)):
  Gd tb Γ (.ias sz a b) (if off+len*sz≤N then Dl len i else none) fun m=> .cp j (off+m*sz):=by
 intro E rv fp f H I m hm
 split at hm
 ·rename_i hle
  exact h_iasC hj (hN▸hle) ha hb E rv fp f H I m hm
 ·cases hm
theorem Bx.learn{E:P4}{rv:Nat→AV}{fp:Fp}{f:Fr}{H:Ax}(I:Bx E Γ rv fp f H){d:Nat}{φ:AL}(h:FR rv Γ.ss (Pf E Γ.ss fp H) H φ (get f d)):Bx E (Γ.push d φ) rv fp f H:=
 ⟨I.le,I.base,I.wf,I.fplt,I.rvlt,I.scal,I.inj,I.slots,fun t ψ e=>by
  simp only[Cx.push,BI]at e
  split at e
  ·rename_i hd;cases e;subst hd;exact h
  ·exact I.temps t ψ e,I.gh⟩
def vT{α:Type}(l:List α)(k m n:Nat):Option (GS α):=if k+m≤n then some (.mk ((l.drop k).take m))else none
theorem Bx.frzSl{E:P4}{rv:Nat→AV}{fp:Fp}{f:Fr}{H:Ax}(I:Bx E Γ rv fp f H){j N o k m n sz d:Nat}{t u:T}{x:t.α}{g:GS u.α}(F:AZ t (T.arr n u) o)(hsz:sz=u.sz)(hj:AG Γ.ss j=some (.cells [(N, .val t x)]))(hn:Nat.blt j ZR=true)
  (hd:BI Γ.ts d=some (.oc j (o+k*sz) sz m)) (hg:vT (F.get x).l k m n=some g):Bx E ((Γ.turn j (bP t x)).push d (.val (T.sl u) g)) rv fp f H:=by
 have hlj:Bi Γ.ss j:=NH hj rfl
 have hs:=I.slots j _ hj
 obtain⟨_,id,e,hv⟩:=I.temps d _ hd
 obtain⟨id',cs,h3,h0,h4,c,e',h5,h6,h7,h8⟩:=hs
 rw[e]at h3
 cases h3
 have h8':e'=[]:=h8
 subst h8'
 simp only[List.append_nil]at h5
 subst h5
 simp only[vT]at hg
 split at hg
 ·rename_i hkm
  cases hg
  have hlen:=t.len h7
  have hle:=F.le
  have J:=I.frzCell hj hn
  have hlv: ∀k,Bi (Γ.turn j (bP t x)).ss k↔k≠j∧Bi Γ.ss k:=PJ
  subst hsz
  have hk:=(h0 id).2 rfl
  have hPid:Pf E (Γ.turn j (bP t x)).ss fp H id:=Pf.gone I hlj hk (fun k lk=>(hlv k).1 lk) (I.new hlj hn id hk)
  have hr:=t.mono (G:=H) (fun i hi=>⟨Pf.same (ss':=(Γ.turn j (bP t x)).ss) (fun k l=>((hlv k).1 l).2) hi,rfl⟩) h7
  obtain⟨css,e1,e2⟩:=F.getR hr
  have hszA:(T.arr n u).sz=n*u.sz:=rfl
  have hwhole:S5 u (Pf E (Γ.turn j (bP t x)).ss fp H) H (.ocel u.sz id o n) (.mk (F.get x).l):=by
   refine⟨hPid,css,?_,e2⟩
   simp only[EP,h4,Option.bind_some]
   rw[if_pos ⟨trivial,by omega⟩]
   congr 1
   have key: ∀(k:Nat) (css:List (List AV)) (cs:List AV),css.length=k→(∀e∈css,e.length=u.sz)→cs.take (k*u.sz)=css.flatten→BK u.sz k cs=css:=by
    intro k
    induction k with
    |zero=>intro css cs h _ _;rw[List.eq_nil_of_length_eq_zero h];rfl
    |succ k ih=>
     intro css cs hk hall hc
     match css,hk with
     |y::css,hk=>
      have hy:=hall y (by simp)
      simp only[BK]
      simp only[List.flatten_cons]at hc
      have hA:cs.take u.sz=y:=by
       have:=congrArg (List.take u.sz) hc
       rw[List.take_take,Nat.min_eq_left (by rw[Nat.succ_mul];omega),List.take_left' hy]at this
       exact this
      have hB:(cs.drop u.sz).take (k*u.sz)=css.flatten:=by
       have:=congrArg (List.drop u.sz) hc
       rw[List.drop_left' hy,List.drop_take,Nat.succ_mul,Nat.add_sub_cancel]at this
       exact this
      rw[hA,ih css (cs.drop u.sz) (by simpa using hk) (fun e he=>hall e (by simp[he])) hB]
   exact key n css (cs.drop o) (by rw[e2.length];exact(F.get x).len) e2.lens (by rw[←e1];rfl)
  have hlenx:(F.get x).l.length=n:=(F.get x).len
  obtain⟨w,h9,h10⟩:=hwhole.resl (c:=k) (d:=k+m) (by omega) (by simp only[GS.l];omega)
  have hw:Am.resl H u.sz (.ocel u.sz id o n) k (k+m)=some (.ocel u.sz id (o+k*u.sz) m):=by simp[Am.resl]
  rw[hw]at h9
  cases h9
  refine J.learn ?_
  rw[hv]
  have:Wa (GS.mk (F.get x).l) k (k+m)= .mk (((F.get x).l.drop k).take m):=by simp[Wa,List.drop_take]
  rw[this]at h10
  exact Ka.2 h10
 ·cases hg
def Aa.frzSl{c:AC}{j N o k m n sz:Nat}(d:Nat){t u:T}{x:t.α}(F:AZ t (T.arr n u) o)(hsz:sz=u.sz)(hj:AG Γ.ss j=some (.cells [(N, .val t x)]))(hn:Nat.blt j ZR=true)
  (hd:BI Γ.ts d=some (.oc j (o+k*sz) sz m)) (s:(g:GS u.α)→Aa tb ((Γ.turn j (bP t x)).push d (.val (T.sl u) g)) c ks Q):Aa tb Γ c ks Q:=
 ⟨(vT (F.get x).l k m n).bind fun g=>(s g).m,fun E f H ⟨rv,fp,I⟩ r hr=>by
  obtain⟨g,hg,hr⟩:=Option.bind_eq_some_iff.1 hr
  exact(s g).ok E f H ⟨rv,fp,I.frzSl F hsz hj hn hd hg⟩ r hr⟩
def UQ{α:Type}{n:Nat}(x:Ar α n)(k m:Nat)(ys:List α):Option (Ar α n):=
 if h:k+m≤n then some ⟨x.l.take k++ys.take m++x.l.drop (k+min ys.length m),by
  rw[List.length_append,List.length_append,List.length_take,List.length_take,List.length_drop,x.len];omega⟩else none
theorem Bx.cpy{E:P4}{rv:Nat→AV}{fp:Fp}{f:Fr}{H:Ax}(I:Bx E Γ rv fp f H){s t:T}{x:s.α}{n j o o' k sz m N:Nat}{ps:List (Nat×AL)}{ys:List t.α}{z:Ar t.α n}(F:AZ s (T.arr n t) o')(hk:sz=t.sz)
  (ha:Dd tb Γ a (.oc j (o+k*sz) sz m)) (hb:xD tb Γ b t ys) (hj:AG Γ.ss j=some (.cells ps)) (hp:KF ps o=some (N, .val s x,o')) (hz:UQ (F.get x) k m ys=some z):
  ∃v H',Bz tb (C1 tb) (eval tb f) H (.cpy sz a b)=some (v,some H')∧v= .i .i64 ((min ys.length m:Nat):Int)∧ ∃rv' fp',Bx E (Γ.setS j (.cells (UE ps o (.val s (F.put x z))))) rv' fp' f H':=by
 subst hk
 simp only[UQ]at hz
 split at hz
 ·rename_i hkm
  cases hz
  obtain⟨l,id,e,hv⟩:=ha E rv fp f H I
  obtain⟨cs,h0,h2,h3⟩:=Hh I hj e
  obtain⟨b',c,e0,e1,e2,e3,e4,e5,e6⟩:=GO h3 hp
  obtain⟨els,g1,g2⟩:=hb E rv fp f H I
  have hel:=g2.length
  have hlens:=(g2.take (n:=m)).lens
  have htl:(els.take m).length=min ys.length m:=by rw[List.length_take,hel,Nat.min_comm]
  have hfl:=fS hlens
  rw[htl]at hfl
  let G:=J4 F (TE n t k (min ys.length m) (by omega))
  have hle:=G.le
  have hszA:(T.arr (min ys.length m) t).sz=min ys.length m*t.sz:=rfl
  have hl:=s.len e4
  have hy:(T.arr (min ys.length m) t).R (Pf E Γ.ss fp H) H (els.take m).flatten ⟨ys.take m,by rw[List.length_take,Nat.min_comm]⟩:=⟨els.take m,rfl,g2.take⟩
  have hput:=G.putR e4 hy
  have hpr:=e6 (o'+k*t.sz) (els.take m).flatten (.val s (G.put x ⟨ys.take m,by rw[List.length_take,Nat.min_comm]⟩)) (by rw[hfl];omega) hput
  rw[show b'+(o'+k*t.sz)=o+k*t.sz by omega]at hpr
  have hmen:=PR.men I.ltP I.rvlt h3
  have hym:=(T.arr (min ys.length m) t).men hy I.ltP
  have hlt':=(I.fplt j id l ((h0 id).2 rfl)).1
  have hx:G.put x ⟨ys.take m,by rw[List.length_take,Nat.min_comm]⟩=F.put x ⟨(F.get x).l.take k++ys.take m++(F.get x).l.drop (k+min ys.length m),by
    rw[List.length_append,List.length_append,List.length_take,List.length_take,List.length_drop,(F.get x).len];omega⟩:=rfl
  rw[hx]at hpr
  obtain⟨rv',fp',_,_,R'⟩:=I.set (j:=j) (S:= .cells (UE ps o (.val s (F.put x ⟨(F.get x).l.take k++ys.take m++(F.get x).l.drop (k+min ys.length m),by
    rw[List.length_append,List.length_append,List.length_take,List.length_take,List.length_drop,(F.get x).len];omega⟩)))) (v:=rv j) (o:= .cells (E5 H id) (B2 cs (o+k*t.sz) (els.take m).flatten)) (by rw[hj];rfl) l h0 (by simp only[ED];exact NC hmen hym) rfl (I.rvlt j l) (.inl rfl) (I.scal j l) fun rv' fp' e1 e2 hP hs=>
   ⟨id,_,by rw[e1,e],e2,by simp[Cq,hlt'],PR.mono hP (by simp) (fun p _=>hs p.2 (.inl rfl)) hpr⟩
  refine⟨_,H.set id (BW.cells (E5 H id) (B2 cs (o+k*t.sz) (els.take m).flatten)),?_,rfl,rv',fp',R'⟩
  have hmn:min els.length m=min ys.length m:=by rw[hel]
  have hbnd:o+k*t.sz+m*t.sz≤cs.length:=by
   have hF:=F.le
   have hszF:(T.arr n t).sz=n*t.sz:=rfl
   have:(k+m)*t.sz≤n*t.sz:=Nat.mul_le_mul_right _ hkm
   rw[Nat.add_mul]at this
   omega
  simp only[Bz,g1,Option.bind_some,hv,bM,h2]
  rw[if_pos ⟨trivial,hbnd⟩,hmn]
  have hte:els.take (min ys.length m)=els.take m:=by
   rw[←hmn]
   rcases Nat.le_total els.length m with h|h
   ·rw[Nat.min_eq_left h,List.take_of_length_le (Nat.le_refl _),List.take_of_length_le h]
   ·rw[Nat.min_eq_right h]
  rw[hte,B2,hfl]
 ·cases hz
theorem mJ{s t:T}{x:s.α}{n j o o' k sz m N d:Nat}{ps:List (Nat×AL)}{ys:List t.α}(F:AZ s (T.arr n t) o')(hk:sz=t.sz)
  (ha:Dd tb Γ a (.oc j (o+k*sz) sz m)) (hb:xD tb Γ b t ys) (hj:AG Γ.ss j=some (.cells ps)) (hp:KF ps o=some (N, .val s x,o')):
  Xs tb Γ (some d) (.cpy sz a b) (UQ (F.get x) k m ys) fun z=>(Γ.setS j (.cells (UE ps o (.val s (F.put x z))))).push d (.val (T.int .i64) ((min ys.length m:Nat):Int)):=fun E rv fp f H I z hz=>by
 obtain⟨v,H',h1,rfl,rv',fp',h2⟩:=I.cpy F hk ha hb hj hp hz
 exact⟨_,some H',h1,rv',fp',h2.push (Cr.2 rfl)⟩
def jK:AL→Bool
 | .own _=>true
 | .rp _ _=>true
 | .cp _ _=>true
 | .ep _ _ _=>true
 | .con _=>true
 | .fnv _ _ _=>true
 | .val t _=> !t.agg
 |_=>false
theorem pR{φ:AL}(h:jK φ=true){E:P4}{rv:Nat→AV}{fp:Fp}{f:Fr}{H:Ax}(R:Bx E Γ rv fp f H)(hs:szF Γ.ss φ=some 1){v:AV}(r:FR rv Γ.ss (Pf E Γ.ss fp H) H φ v):
  cellsOf v=[v]∧BS v≤H.length∧ ∀rv ss P H,FC rv ss P H φ [v]↔FR rv ss P H φ v:=by
 obtain⟨g1,g2⟩:=Vv R hs r
 have ha:aggF φ=false:=by cases φ<;>first|rfl|(simp only[jK,Bool.false_eq_true]at h;done)|(simp only[jK,Bool.not_eq_true']at h;exact h)
 rw[ha]at g2
 refine⟨?_,FR.men R.ltP R.rvlt (by rintro rfl;cases h) r,fun rv ss P H=> ?_⟩
 ·match hc:cellsOf v,g1 with
  |[w],_=>
   rw[hc]at g2
   simp only[HS,Option.some.injEq]at g2
   rw[g2]
 ·cases φ<;>first
   |(simp only[jK,Bool.false_eq_true]at h;done)
   |exact⟨fun⟨w,e,r⟩=>by cases e;exact r,fun r=>⟨v,rfl,r⟩⟩
   |exact⟨fun r=> .inr ⟨by simpa [jK]using h,r⟩,fun r=>r.elim (fun⟨e,_⟩=>by simp[jK,e]at h) (fun e=>e.2)⟩
theorem AA{d t0:Nat}{z:List AV}(j:Nat)(ps:List (Nat×AL))(hz: ∀rv ss P H,PR rv ss P H ps z)(hm:Bu z=0)(hj:AG Γ.ss j=none):Xs tb Γ (some d) (.alloc t0 z) (some ()) fun _=>⟨(d, .cp j 0)::Γ.ts,(j, .cells ps)::Γ.ss⟩:=by
 intro E rv fp f H R _ hz0
 obtain⟨rv',fp',h1,h2,h3⟩:=R.more (j:=j) (S:= .cells ps) (v:= .ptr H.length 0) (o:= .cells (some t0) z) (HY hj) (by simp only[ED];omega) rfl (by simp[BS]) rfl fun rv' fp' e1 e2 hP hs=>
  ⟨_,z,e1,e2,by simp[Cq],hz _ _ _ _⟩
 exact⟨_,_,rfl,rv',fp',h3.push (φ:= .cp j 0) ⟨h2,_,h1,rfl⟩⟩
theorem h_cvcI{I:IT}{x:I.t.α}(ha:Dd tb Γ a (.val I.t x)):Gd tb Γ (.cvc a) (some (Utf8.encode (I.toI x)).data.toList) fun z=> .val Ak z:=by
 rintro E rv fp f H R z ⟨⟩
 exact⟨_,none,by simp only[Bz,I.V.1 (ha E rv fp f H R)],rfl,E2.2 rfl⟩
end
section
variable{tb:Dg}{Γ:Cx}{a b:AO}
def RF(ss:Ss):List Nat→Bool
 |[]=>true
 |j::r=>(match AG ss j with
  |some (.keep φ)=>jK φ&&(match szF ss φ with|some 1=>true|_=>false)
  |_=>false)&&RF ss r
theorem N9{E:P4}{rv:Nat→AV}{fp:Fp}{f:Fr}{H:Ax}(R:Bx E Γ rv fp f H): ∀{js:List Nat},RF Γ.ss js=true→(js.flatMap fun j=>cellsOf (rv j))=js.map rv∧Mo Γ.ss js∧ ∀j∈js,BS (rv j)≤H.length
 |[],_=>⟨rfl,fun _ hj=>absurd hj (by simp),fun _ hj=>absurd hj (by simp)⟩
 |j::r,h=>by
  simp only[RF,Bool.and_eq_true]at h
  obtain⟨h1,h2⟩:=h
  obtain⟨g1,g2,g3⟩:=N9 R h2
  split at h1
  ·rename_i φ e
   simp only[Bool.and_eq_true]at h1
   have hs:szF Γ.ss φ=some 1:=by
    have:=h1.2
    split at this
    ·assumption
    ·cases this
   obtain⟨k1,k2,_⟩:=pR h1.1 R hs (R.slots j _ e).1
   refine⟨by simp only[List.flatMap_cons,List.map_cons,k1,g1];rfl,fun k hk=> ?_,fun k hk=> ?_⟩
   ·rcases List.mem_cons.1 hk with rfl|hk
    ·rw[e];rfl
    ·exact g2 k hk
   ·rcases List.mem_cons.1 hk with rfl|hk
    ·exact k2
    ·exact g3 k hk
  ·cases h1
def kvs(js:List Nat):List (Nat×AL):=js.map fun k=>(1, .kv k)
theorem uY{rv:Nat→AV}{ss:Ss}{P:Nat→Prop}{H:Ax}: ∀{js:List Nat},Mo ss js→PR rv ss P H (kvs js) (js.map rv)
 |[],_=>rfl
 |j::r,h=>⟨[rv j],r.map rv,rfl,rfl,⟨rv j,rfl,fun k hk=>by rw[List.mem_singleton.1 hk];exact h j (by simp),rfl⟩,uY fun k hk=>h k (by simp[hk])⟩
theorem xC{rv:Nat→AV}{ss:Ss}{P:Nat→Prop}{H:Ax}: ∀{js:List Nat} {cs:List AV},PR rv ss P H (kvs js) cs→cs=js.map rv
 |[],cs,h=>h
 |j::r,cs,⟨c,d,e,_,⟨v,hc,_,hv⟩,g⟩=>by rw[e,hc,xC g,hv];rfl
theorem AT{js:List Nat}{j n:Nat}{ps:List (Nat×AL)}(ha:Dd tb Γ a (.cp j 0))(hb:Dd tb Γ b (.aggk js))(ho:RF Γ.ss js=true)(hj:AG Γ.ss j=some (.cells ps))(hn:n=js.length)(hs:n=TK ps):
  Xs tb Γ none (.st n a b) (some ()) fun _=>Γ.setS j (.cells (kvs js)):=by
 rintro E rv fp f H R z ⟨⟩
 obtain⟨l,id,e,hv⟩:=ha E rv fp f H R
 obtain⟨cs,h0,h2,h3⟩:=Hh R hj e
 obtain⟨g1,g2,g3⟩:=N9 R ho
 have hbv:=(hb E rv fp f H R).2
 rw[g1]at hbv
 have hlen:=PR.length h3
 have hlt:=(R.fplt j id l ((h0 id).2 rfl)).1
 have hm:Bu (js.map rv)≤H.length:=by
  have key: ∀l:List Nat,(∀j∈l,BS (rv j)≤H.length)→Bu (l.map rv)≤H.length:=by
   intro l
   induction l with
   |nil=>intro _;simp[Bu]
   |cons x l ih=>intro h;simp only[List.map_cons,Bu];have:=h x (by simp);have:=ih fun j hj=>h j (by simp[hj]);omega
  exact key js g3
 obtain⟨rv',fp',_,_,R'⟩:=R.set (j:=j) (S:= .cells (kvs js)) (v:=rv j) (o:= .cells (E5 H id) (js.map rv)) (by rw[hj];rfl) l h0 (by simp only[ED];exact hm) rfl (R.rvlt j l) (.inl rfl) (R.scal j l) fun rv' fp' e1 e2 hP hs=>
  ⟨id,_,by rw[e1,e],e2,by simp[Cq,hlt],PR.mono hP (by simp) (fun p _=>hs p.2 (.inl rfl)) (uY (rv:=rv) g2)⟩
 have hsp:B2 cs 0 (js.map rv)=js.map rv:=by
  simp only[B2,List.take_zero,List.nil_append,Nat.zero_add]
  rw[List.drop_eq_nil_of_le (by rw[List.length_map];omega),List.append_nil]
 refine⟨.junk,some (H.set id (BW.cells (E5 H id) (js.map rv))),?_,rv',fp',R'⟩
 simp only[Bz,hv,store,h2,Option.bind_some,hbv,cellsOf]
 rw[if_pos ⟨by rw[List.length_map,hn],by omega⟩,hsp]
 rfl
theorem h_ldKs{js:List Nat}{j n:Nat}(ha:Dd tb Γ a (.cp j 0))(ho:RF Γ.ss js=true)(hj:AG Γ.ss j=some (.cells (kvs js)))(hn:n=js.length):Gd tb Γ (.ld true n a) (some ()) fun _=> .aggk js:=by
 rintro E rv fp f H R z ⟨⟩
 obtain⟨l,id,e,hv⟩:=ha E rv fp f H R
 obtain⟨cs,h0,h2,h3⟩:=Hh R hj e
 obtain⟨g1,g2,g3⟩:=N9 R ho
 have hcs:=xC h3
 subst hcs
 have hsub:sub (js.map rv) 0 n=js.map rv:=by
  simp only[sub,List.drop_zero];exact List.take_of_length_le (by rw[List.length_map];omega)
 refine⟨.agg (js.map rv),none,?_,rfl,g2,by rw[g1]⟩
 simp only[Bz,hv,Am.load,place,h2,Option.map_some,Option.bind_some]
 rw[if_pos (by rw[List.length_map];omega),hsub]
 rfl
theorem D9{js:List Nat}{j n m:Nat}(h:BI Γ.ts n=some (.cp j 0))(ho:RF Γ.ss js=true)(hj:AG Γ.ss j=some (.cells (kvs js)))(hm:m=js.length):xA Γ (.cell true m n) (.aggk js):=by
 intro E rv fp f H R r vs hr
 obtain⟨v,u,h1,_,h3⟩:=h_ldKs (tb:=⟨fun _=>none,fun _=>none,fun _=>none,[]⟩) (Ag h) ho hj hm E rv fp f H R () rfl
 simp only[Bz,eval,val]at h1
 obtain⟨w,hw,e⟩:=Option.map_eq_some_iff.1 h1
 cases e
 exact⟨v,by simp only[results,hw,Option.bind_some,hr,Option.map_some],h3⟩
end
def Yq{t:T}{l:List CK}(p:F1 t l)(x y:t.α):Bool:= @decide (x=y) (p.d x y)
theorem Xe{t:T}{l:List CK}{p:F1 t l}{x y:t.α}(h:x=y):Yq p x y=true:= @decide_eq_true _ (p.d x y) h
theorem bN{t:T}{l:List CK}{p:F1 t l}{x y:t.α}(h: ¬x=y):Yq p x y=false:= @decide_eq_false _ (p.d x y) h
open Classical in
noncomputable def YS{β:Type}(g:Nat→Option β):Option β:=if h: ∃n,(g n).isSome=true then g (Classical.choose h)else none
theorem fO{β:Type}{g:Nat→Option β}{b:β}(h: ∀n,g n=none∨g n=some b){m:Nat}(hm:g m=some b):YS g=some b:=by
 have hx: ∃n,(g n).isSome=true:=⟨m,by rw[hm];rfl⟩
 unfold YS
 rw[dif_pos hx]
 rcases h (Classical.choose hx)with e|e
 ·have:=Classical.choose_spec hx
  rw[e]at this;cases this
 ·exact e
theorem Xp{tb:Dg}{g:Nat}{As Rs:List T}:Spec tb g As Rs fun _=>none:=fun _ _ _ _ _ _ _ _ h=>by cases h
theorem Zo{tb:Dg}{g:Nat}{As Rs:List T}{G:Nat→CF As→Option (CF Rs)}(h: ∀n,Spec tb g As Rs (G n)):Spec tb g As Rs fun a=>YS fun n=>G n a:=by
 intro P hp args xs h1 h2 h3 r hr
 simp only[YS]at hr
 by_cases e: ∃n,(G n xs).isSome=true
 ·rw[dif_pos e]at hr
  exact h _ P hp args xs h1 h2 h3 r hr
 ·rw[dif_neg e]at hr
  cases hr
end Go.Proofs.YtobejhpigbllpaaGreatDoor.Am
namespace Go.Proofs.YtobejhpigbllpaaGreatDoor.Am
section
variable{tb:Dg}{cl:Nat→List AV→Ax→Lb}{N:Nat}
end
section
variable{tb:Dg}{Γ:Cx}{a b:AO}{ks:List Kf}{ρ:Type}{Q:MR ρ}
def iM:T:=S2 Bool (fun x=>if x then .ifc 0 .junk else .nili) false (fun x=>by cases x<;>rfl) (fun x=>by cases x<;>rfl)
theorem cA{P:Nat→Prop}{H:Ax}{v:AV}{x:Bool}:iM.V P H v x↔v=if x then .ifc 0 .junk else .nili:=P3
theorem vJ{t:Nat}:Gd tb Γ (.mkif t a) (some ()) fun _=> .val iM true:=by
 rintro E rv fp f H R _ ⟨⟩
 exact⟨_,none,rfl,rfl,cA.2 rfl⟩
theorem h_isni{x neg:Bool}(ha:Dd tb Γ a (.val iM x)):Gd tb Γ (.isni neg a) (some (if neg then x else !x)) fun z=> .val T.b z:=by
 rintro E rv fp f H R _ ⟨⟩
 have h:=cA.1 (ha E rv fp f H R)
 refine⟨.b (if neg then x else !x),none,?_,rfl,Fz.2 rfl⟩
 simp only[Bz,h]
 cases x<;>cases neg<;>rfl
theorem o_g{n:Nat}{t:T}{cs:List AV}{x:t.α}(h:tb.gl n=some cs)(hm:Bu cs=0)(hr: ∀P H,t.R P H cs x):Dd tb Γ (.g n) (.rp t x):=fun E rv fp f H R=>by
 have hl:=t.len (hr (Pf E Γ.ss fp H) H)
 have he:eval tb f (.g n)= .ip cs 0:=by simp only[eval,h]
 show iU t _ _ _ _
 rw[he]
 refine⟨trivial,cs,0,rfl,by omega,?_,fun m _=>by simp only[BS,hm];omega⟩
 have:sub cs 0 t.sz=cs:=by simp[sub,←hl]
 rw[this];exact hr _ _
theorem tab_m{α:Type}(c:α→AV)(hm: ∀x,BS (c x)=0): ∀l:List α,Bu (l.map c)=0
 |[]=>rfl
 |x::l=>by simp only[List.map_cons,Bu,hm x,tab_m c hm l];rfl
theorem tab_R{α:Type}{c:α→AV}{z:α}{hs hm}{n:Nat}{P:Nat→Prop}{H:Ax}(x:Ar α n):(T.arr n (S2 α c z hs hm)).R P H (x.l.map c) x:=by
 have key: ∀l:List α,l.map c=(l.map fun y=>[c y]).flatten∧Do (S2 α c z hs hm) P H (l.map fun y=>[c y]) l:=fun l=>by
  induction l with
  |nil=>exact⟨rfl,trivial⟩
  |cons y l ih=>exact⟨by simp[ih.1],rfl,ih.2⟩
 exact⟨_,(key x.l).1,(key x.l).2⟩
end
section
variable{K V:T}{P Q:Nat→Prop}{H G:Ax}
end
section
variable{K V:T}{P Q:Nat→Prop}{H G:Ax}{ek:EK}
end
section
variable{tb:Dg}{Γ:Cx}{a b c:AO}{K V:T}{ek:EK}
end
end Go.Proofs.YtobejhpigbllpaaGreatDoor.Am
namespace Go.Proofs.YtobejhpigbllpaaGreatDoor.Am
section
variable{tb:Dg}{Γ:Cx}{ks:List Kf}{ρ:Type}{Q:MR ρ}
def QJ(tb:Dg){τ:Type}(Γj:τ→Cx)(ks:List Kf)(Q:MR ρ):MR (τ⊕ρ):=fun E r e f H=>
 match r with
 | .inl p=>e= .normal∧Rel E (Γj p) f H
 | .inr r=>e≠ .normal∧ ∃e' f' H',Ip tb ks (e,f,H)=some (e',f',H')∧Q E r e' f' H'
def Hs{c:AC}{τ:Type}(Γj:τ→Cx)(k:(p:τ)→Aa tb (Γj p) (rg false []) ks Q)(main:Aa tb Γ c [] (QJ tb Γj ks Q)):Aa tb Γ c ks Q:=
 ⟨main.m.bind (Sum.elim (fun p=>(k p).m) some),fun E f H R r hr=>by
  obtain⟨b,hb,hr⟩:=Option.bind_eq_some_iff.1 hr
  obtain⟨e,f1,H1,h1,h2⟩:=main.ok E f H R b hb
  have h1':Bc tb (C1 tb) c f H=some (e,f1,H1):=by
   obtain⟨p,hp,h⟩:=Option.bind_eq_some_iff.1 h1
   rw[hp,←h];rfl
  rw[h1']
  cases b with
  |inr r'=>
   simp only[Sum.elim_inr,Option.some.injEq]at hr
   subst hr
   exact h2.2
  |inl p=>
   obtain⟨rfl,R'⟩:=h2
   simp only[Sum.elim_inl]at hr
   obtain⟨e2,f2,H2,h4,h5⟩:=(k p).ok E f1 H1 R' r hr
   exact⟨e2,f2,H2,by simpa [DD]using h4,h5⟩⟩
def Fq{q:Bool}{τ:Type}{Γj:τ→Cx}(p:τ)(h:Sub (Γj p) Γ):Aa tb Γ (rg q []) [] (QJ tb Γj ks Q):=
 ⟨some (.inl p),fun E f H ⟨rv,fp,I⟩ r hr=>by
  cases hr
  exact⟨.normal,f,H,by simp[DD,Ip],rfl,rv,fp,I.sub h⟩⟩
def Xq{τ:Type}{Γj:τ→Cx}{ks':List Kf}(s:Aa tb Γ .ret ks Q):Aa tb Γ .ret ks' (QJ tb Γj ks Q):=
 S3 ⟨s.m.map fun r=> .inr r,fun E f H R r hr=>by
  obtain⟨r',h1,rfl⟩:=Option.map_eq_some_iff.1 hr
  obtain⟨e,f',H',h2,h3⟩:=s.ok E f H R r' h1
  refine⟨.ret,f,H,by simp[Bc,Ip],by simp,e,f',H',?_,h3⟩
  simpa [Bc]using h2⟩
def Aj{q:Bool}{d:Nat}{o:Im}{l:List Bl}{β:Type}{a:β}{φ:β→AL}(h:Gd tb Γ o (some a) φ)(k:(b:β)→Aa tb (Γ.push d (φ b)) (rg q l) ks Q):Aa tb Γ (rg q (⟨some d,none,o⟩::l)) ks Q:=
 ⟨(k a).m,(Aa.op h k).ok⟩
def B9{q:Bool}{d t:Nat}{o:Im}{l:List Bl}{β:Type}{a:β}{φ:β→AL}(h:Gd tb Γ o (some a) φ)(k:(b:β)→Bt tb (Γ.push d (φ b)) q l t):Bt tb Γ q (⟨some d,none,o⟩::l) t:=
 ⟨(k a).m,(Bt.op h k).ok⟩
def Ai{d:Option Nat}{o:Im}{l:List Bl}{β:Type}{a:β}{Γ':β→Cx}(h:Xs tb Γ d o (some a) Γ')(k:(b:β)→Aa tb (Γ' b) (rg false l) ks Q):Aa tb Γ (rg false (⟨d,none,o⟩::l)) ks Q:=
 ⟨(k a).m,(CS h k).ok⟩
variable{w:List (Option (Nat×Nat))}{N k:Nat}{B:List Ob}{C C':List Cb}{o:Im}{l:List Bl}{y:Nat×Nat}
def Cj{d:Nat}{β:Type}{a:β}{φ:β→AL}(hq:hZ N k B C y (some d) o=true)(h:Gd tb Γ o (some a) φ)(s:(b:β)→A0 tb (Γ.push d (φ b)) N k B C l w ks Q):A0 tb Γ N k B C (⟨some d,none,o⟩::l) (some y::w) ks Q:=
 ⟨(s a).m,(A0.op hq h s).ok⟩
def rH{d:Option Nat}{β:Type}{a:β}{Γ':β→Cx}(hq:qZ B C' d=true)(hb: ∀b,Yv tb (Γ' b) B)(hc:LX Γ k C C')(h:Xs tb Γ d o (some a) Γ')(s:(b:β)→A0 tb (Γ' b) N (k+1) (lR B) C' l w ks Q):A0 tb Γ N k B C (⟨d,none,o⟩::l) (none::w) ks Q:=
 ⟨(s a).m,(CE hq hb hc h s).ok⟩
end
end Go.Proofs.YtobejhpigbllpaaGreatDoor.Am
namespace Go.Proofs.YtobejhpigbllpaaGreatDoor.Am
def YF(tB te:Nat):List AV→Ax→Option (AV×Option Ax)
 |[.ptr id off, .i .i64 n],h=>match h[id]? with
  |some (.cells (some t) [a, .nils])=>if off=0∧t=tB∧0≤n∧n≤B4 then some (.tup [],some (h.set id (.cells (some t) [a, .orow h.length 0 0 0])++[.row (some te) false 1 []]))else none
  |_=>none
 |_,_=>none
def iQ(P:Program)(g te:Nat):Prop:= ∀(b n:Nat) (w:World),w.cell? ⟨b,1,none⟩=some (.slice none 0 0)→b<w.heap.size→w.frozen? ⟨b,1,none⟩=false→n≤281474976710656→
 ∃cs:Array Value,n≤cs.size∧Calls P g #[.pointer (some ⟨b,0,none⟩), .int .i64 n] w fun e w'=>e= .returned (.tuple #[])∧w'=((w.setCell ⟨b,1,none⟩ (.slice (some ⟨w.heap.size,0,none⟩) 0 cs.size)).alloc (.cells cs te)).drew.drew.drew
def gQ(P:Program)(g:Nat):Bool:=match P.funcs[g]? with
 |some fn=>fn.body.isSome&& !(fn.name== "runtime.NumGoroutine")
 |none=>false
section
variable{P:Program}{tb:Dg}
theorem LP{g:Nat}(h:gQ P g=true)(vs:Array Value)(w:World):(callFunc g vs).run P w= .ok (.enter g vs) w:=by
 unfold gQ at h
 split at h
 ·rename_i fn hf
  simp only[Bool.and_eq_true,Bool.not_eq_true']at h
  obtain⟨h1,h2⟩:=h
  obtain⟨c,hc⟩:=Option.isSome_iff_exists.1 h1
  have h2': ¬fn.name= "runtime.NumGoroutine" :=by simpa using h2
  simp[callFunc,hf,hc,h2']
 ·cases h
theorem pM{tB te g:Nat}(hen:gQ P g=true)(hg:iQ P g te):Fs P tb fun g' args h=>if g'=g then YF tB te args h else none:=by
 intro g' C args vs r I hr h
 dsimp only at h
 split at h
 ·rename_i hgg
  subst hgg
  unfold YF at h
  split at h
  ·rename_i hp id off n
   split at h
   ·rename_i t x hid
    split at h
    ·rename_i hc
     obtain⟨rfl,rfl,h0,hm⟩:=hc
     cases h
     obtain⟨v,vs',e1,r1,v2,vs2,e2,r2,e3⟩:=hr
     have e3':vs2=[]:=e3
     have r2':v2= .int .i64 n:=r2
     subst e3';subst e2;subst e1;subst r2'
     obtain⟨_,rfl⟩:=r1
     obtain⟨us,arr,e,fr,⟨h1,hb⟩,h2,h3,h4,h5,h6⟩:=I.obj id _ hid
     obtain⟨ux,us1,eu1,rx,uy,us2,eu2,ry,eu3⟩:=h4
     have eu3':us2=[]:=eu3
     have ry':uy= .slice none 0 0:=ry
     subst eu3';subst eu2;subst eu1;subst ry'
     have hlt:(C.φ id).blk<C.w.heap.size:=I.lt id (Bb hid)
     have hidl:=Bb hid
     have c1:C.w.cell? ⟨(C.φ id).blk,1,none⟩=some (.slice none 0 0):=by
      have:=h5 1 (.slice none 0 0) rfl
      simpa using this
     have hnn:((n.toNat:Nat):Int)=n:=Int.toNat_of_nonneg h0
     have hmm:n.toNat≤281474976710656:=by unfold B4 at hm;omega
     obtain⟨cs,hcs,hcall⟩:=hg (C.φ id).blk n.toNat C.w c1 hlt (h6 1 (by simp)) hmm
     rw[hnn]at hcall
     refine .inr ⟨g',_,LP hen _ _,hcall.mono ?_⟩
     rintro ee w' ⟨rfl,hw'⟩
     have hszA:C.w.heap.size<(C.w.alloc (.cells cs te)).heap.size:=by rw[GU];omega
     obtain⟨XA,hIA,hφA⟩:=more I (p:=⟨C.w.heap.size,0,cs.size⟩) (o:=BW.row (some te) false 1 []) (w:=C.w.alloc (.cells cs te)) ⟨rfl,rfl,rfl⟩ hszA rfl (fun b hb=>alloc_old _ _ hb)
     have hfA: ∀o,(C.w.alloc (.cells cs te)).frozen? ⟨C.w.heap.size,o,none⟩=false:=fun o=>by simp only[World.frozen?,Ij];simp
     have IA:=hIA ⟨[],cs,te,(0,0),⟨Ij _ _,Nat.le_refl _,fun k hk=>by cases hk;rfl⟩,rfl,by omega,by simp,rfl,by simp,fun j v hj=>by simp at hj,fun _ o _=>hfA o,fun _ o _ _=>hfA o⟩
     have hφid:(C.more ⟨C.w.heap.size,0,cs.size⟩ (BW.row (some te) false 1 []) (C.w.alloc (.cells cs te))).φ id=C.φ id:=if_neg (by omega)
     have hgA:(C.more ⟨C.w.heap.size,0,cs.size⟩ (BW.row (some te) false 1 []) (C.w.alloc (.cells cs te))).H[id]? =some (.cells (some t) [x, .nils]):=(List.getElem?_append_left hidl).trans hid
     have hws:w'.heap.size=C.w.heap.size+1:=by rw[hw'];simp
     have hwn:w'.heap[C.w.heap.size]? =some (.cells cs te):=by
      rw[hw']
      have:(C.w.setCell ⟨(C.φ id).blk,1,none⟩ (.slice (some ⟨C.w.heap.size,0,none⟩) 0 cs.size)).heap.size=C.w.heap.size:=by simp
      have hq:=Ij (C.w.setCell ⟨(C.φ id).blk,1,none⟩ (.slice (some ⟨C.w.heap.size,0,none⟩) 0 cs.size)) (.cells cs te)
      rw[this]at hq
      exact hq
     have hwo: ∀b,b<C.w.heap.size→w'.heap[b]? =(C.w.setCell ⟨(C.φ id).blk,1,none⟩ (.slice (some ⟨C.w.heap.size,0,none⟩) 0 cs.size)).heap[b]? :=fun b hb=>by
      rw[hw']
      exact alloc_old _ _ (by simpa using hb)
     have hwid:w'.heap[(C.φ id).blk]? =some (.cells (arr.setIfInBounds 1 (.slice (some ⟨C.w.heap.size,0,none⟩) 0 cs.size)) e fr):=by
      rw[hwo _ hlt];exact RU h1
     let D0:=C.more ⟨C.w.heap.size,0,cs.size⟩ (BW.row (some te) false 1 []) (C.w.alloc (.cells cs te))
     obtain⟨X,hI⟩:=rO (C:=D0) (D:=⟨D0.φ,D0.H.set id (.cells (some t) [x, .orow C.H.length 0 0 0]),w'⟩) IA (o':= .cells (some t) [x, .orow C.H.length 0 0 0]) (by rw[hw'];exact⟨rfl,rfl,rfl⟩) hgA rfl (fun _ _=>rfl)
      (by show(C.w.alloc (.cells cs te)).heap.size≤w'.heap.size;rw[GU,hws];exact Nat.le_refl _)
      (fun b hb hne=>by
       have hb':b<C.w.heap.size+1:=by have:b<(C.w.alloc (.cells cs te)).heap.size:=hb;rw[GU]at this;exact this
       show w'.heap[b]? =(C.w.alloc (.cells cs te)).heap[b]?
       by_cases hbe:b=C.w.heap.size
       ·subst hbe;rw[hwn,Ij]
       ·have hbl:b<C.w.heap.size:=by omega
        have hne':b≠(C.φ id).blk:=fun e=>hne (by rw[e];exact congrArg Place.blk hφid.symm)
        rw[hwo b hbl,alloc_old _ _ hbl,heap_setCell_other hne'])
      (.inl rfl) (fun _=>⟨rfl,rfl⟩) (fun _ _ _ _ e=>by cases e)
     have hrow:rowAt (D0.H.set id (.cells (some t) [x, .orow C.H.length 0 0 0])) C.H.length=some (false,1,[]):=by
      have:(D0.H.set id (BW.cells (some t) [x, .orow C.H.length 0 0 0]))[C.H.length]? =some (BW.row (some te) false 1 []):=by
       rw[List.getElem?_set_ne (by omega)]
       show(C.H++[_])[C.H.length]? =_
       simp
      simp only[rowAt,this]
     have hI2:=hI (by
      show Obj _ (D0.φ id) _
      rw[hφid]
      refine⟨[ux, .slice (some ⟨C.w.heap.size,0,none⟩) 0 cs.size],_,e,fr,⟨hwid,hb⟩,by simpa using h2,by simp only[List.all_cons,List.all_nil,Bool.and_true,Bool.and_eq_true]at h3 ⊢;exact⟨h3.1,rfl⟩,⟨ux,_,rfl,Gc.ext (XA.trans X) rx,_,_,rfl,?_,rfl⟩,?_,?_⟩
      ·refine⟨⟨_,_,rfl⟩,false,1,[],hrow,Nat.le_refl _,fun _=>⟨Nat.le_refl _,0,cs.size,?_,Nat.zero_le _,fun h=>absurd h (by omega),?_,?_⟩⟩
       ·show _=Value.slice (some ⟨(D0.φ C.H.length).blk,0,none⟩) 0 cs.size
        rw[show D0.φ C.H.length=_ from hφA]
       ·show 0+cs.size*1≤(D0.φ C.H.length).size
        rw[show D0.φ C.H.length=_ from hφA];simp
       ·show(D0.φ C.H.length).base≤0
        rw[show D0.φ C.H.length=_ from hφA];exact Nat.le_refl _
      ·intro j v hj
       simp only[World.cell?,hwid,Nat.zero_add]
       match j,hj with
       |0,hj=>
        have:=h5 0 ux rfl
        simp only[World.cell?,h1]at this
        simp only[List.getElem?_cons_zero,Option.some.injEq]at hj
        subst hj
        simpa using this
       |1,hj=>
        simp only[List.getElem?_cons_succ,List.getElem?_cons_zero,Option.some.injEq]at hj
        subst hj
        have h2':arr.size=2:=by simpa using h2
        simp[h2']
       |j+2,hj=>simp at hj
      ·intro o ho
       have:=h6 o (by simpa using ho)
       simp only[World.frozen?,h1]at this
       simp only[World.frozen?,hwid]
       exact this)
     refine⟨_,_,rfl,XA.trans X,hI2,rfl,?_,⟨[],rfl,rfl⟩⟩
     show(C.H++[BW.row (some te) false 1 []]).set id _=(C.H.set id _++[_])
     rw[List.set_append_left _ _ hidl]
    ·cases h
   ·cases h
  ·cases h
 ·cases h
end
end Go.Proofs.YtobejhpigbllpaaGreatDoor.Am
namespace Go.Proofs.YtobejhpigbllpaaGreatDoor.Am
def Ra(tS ncc ngr:Nat):D7:=⟨false,2,25,[],
 (.seq (rg false [⟨some 4,none, .mv (.t 0)⟩,⟨some 5,none, .call ncc [(.t 4)]⟩])
 (.seq (.seq (rg false [⟨some 6,none, .mv (.t 1)⟩,⟨some 7,none, .bin .lss (.t 6) (.k (.i .i64 0))⟩])
 (.cond (.t 7)
  (rg false [⟨some 8,none, .mkif tS (.k (.s [115,116,114,105,110,103,115,46,66,117,105,108,100,101,114,46,71,114,111,119,58,32,110,101,103,97,116,105,118,101,32,99,111,117,110,116]))⟩,⟨none,none, .die⟩])
  .skip))
 (.seq (rg true [⟨some 9,none, .mv (.t 0)⟩,⟨some 10,none, .nilc (.t 9)⟩,⟨some 11,none, .fa 1 (.t 10)⟩,⟨some 12,none, .ld false 1 (.t 11)⟩,⟨some 13,none, .capn (.t 12)⟩,⟨some 14,none, .mv (.t 0)⟩,⟨some 15,none, .nilc (.t 14)⟩,⟨some 16,none, .fa 1 (.t 15)⟩,⟨some 17,none, .ld false 1 (.t 16)⟩,⟨some 18,none, .len (.t 17)⟩,⟨some 19,none, .bin .sub (.t 13) (.t 18)⟩,⟨some 20,none, .mv (.t 1)⟩,⟨some 21,none, .bin .lss (.t 19) (.t 20)⟩])
 (.cond (.t 21)
  (rg false [⟨some 22,none, .mv (.t 0)⟩,⟨some 23,none, .mv (.t 1)⟩,⟨some 24,none, .call ngr [(.t 22),(.t 23)]⟩])
  .skip))))⟩
section
variable{tb:Dg}{tB te tS ncc nne ngw ngr:Nat}{h:Ax}{id:Nat}{a b:AV}
theorem oS{cl:Nat→List AV→Ax→Lb}{d:Option Nat}{o:Im}{l:List Bl}{f:Fr}{v:AV}{r:Option Fr}(e:Bz tb cl (eval tb f) h o=some (v,none))(k:Ir tb cl h l (put f d v)=r):Ir tb cl h (⟨d,none,o⟩::l) f=r:=by
 simp[Ir,wanted,e,k]
theorem sI{l:List Bl}{y:AC}{f f':Fr}(e:Ir tb (C1 tb) h l f=some f'):Bc tb (C1 tb) (.seq (rg true l) y) f h=Bc tb (C1 tb) y f' h:=by
 simp[Bc,rg,e]
theorem dI{c:AO}{x y:AC}{f:Fr}{b:Bool}(e:eval tb f c= .b b):Bc tb (C1 tb) (.cond c x y) f h=if b then Bc tb (C1 tb) x f h else Bc tb (C1 tb) y f h:=by
 simp[Bc,e]
theorem vQ{n:Int}{h1 G:Ax}(h0:0≤n)(hc:B6 tb (C1 tb) h ncc [.ptr id 0]=some (.tup [],some h1))(hld:load h1 false 1 (.ptr id 1)=some .nils)(hg:if 0<n then B6 tb (C1 tb) h1 ngr [.ptr id 0, .i .i64 n]=some (.tup [],some G)else G=h1):
  ∃f',Bc tb (C1 tb) (Ra tS ncc ngr).body [(0, .ptr id 0),(1, .i .i64 n)] h=some (.normal,f',G):=by
 have hn0:decide (n<0)=false:=by simp;omega
 have key: ∃F,Bc tb (C1 tb) (Ra tS ncc ngr).body [(0, .ptr id 0),(1, .i .i64 n)] h=Bc tb (C1 tb) (.cond (.t 21)
  (rg false [⟨some 22,none, .mv (.t 0)⟩,⟨some 23,none, .mv (.t 1)⟩,⟨some 24,none, .call ngr [(.t 22),(.t 23)]⟩])
  .skip) F h1∧get F 21= .b (decide (0<n))∧get F 0= .ptr id 0∧get F 1= .i .i64 n:=by
  apply Exists.intro
  refine⟨?_,?_⟩
  ·unfold Ra
   simp only
   refine(IZ (MU (v:= .ptr id 0) (u:=none) rfl (MU (v:= .tup []) (u:=some h1) (Vn (by exact hc)) rfl))).trans ?_
   refine(mV ((IZ (MU (v:= .i .i64 n) (u:=none) rfl (MU (v:= .b false) (u:=none) (by rw[←hn0];rfl) rfl))).trans ((dI (b:=false) rfl).trans rfl))).trans ?_
   exact(sI (oS (v:= .ptr id 0) rfl (oS (v:= .ptr id 0) rfl (oS (v:= .ptr id 1) rfl (oS (v:= .nils) (Zj (by exact hld)) (oS (v:= .i .i64 0) rfl (oS (v:= .ptr id 0) rfl (oS (v:= .ptr id 0) rfl (oS (v:= .ptr id 1) rfl (oS (v:= .nils) (Zj (by exact hld)) (oS (v:= .i .i64 0) rfl (oS (v:= .i .i64 0) rfl (oS (v:= .i .i64 n) rfl (oS (v:= .b (decide (0<n))) rfl rfl))))))))))))))
  ·exact⟨rfl,rfl,rfl⟩
 obtain⟨F,e,f21,f0,f1⟩:=key
 rw[e,dI (b:=decide (0<n)) (by simpa [eval]using f21)]
 by_cases hp:0<n
 ·rw[if_pos hp]at hg
  rw[if_pos (by simpa using hp)]
  simp only[Bc,rg,Bool.false_eq_true,if_false]
  rw[MU (v:= .ptr id 0) (u:=none) (by simp[Bz,eval,f0]) (MU (v:= .i .i64 n) (u:=none) (by simp[Bz,eval,get,put,f1]) (MU (v:= .tup []) (u:=some G) (Vn (by exact hg)) rfl))]
  exact⟨_,rfl⟩
 ·rw[if_neg hp]at hg
  rw[if_neg (by simpa using hp),hg]
  exact⟨_,rfl⟩
theorem Aa9(hf:tb.prim ngw=none∧tb.fns ngw=some (Ra tS ncc ngr))(hcc:tb.prim ncc=none∧tb.fns ncc=some (ML tB nne))(hne:tb.prim nne=some Oy)(hgr:tb.prim ngr=some (YF tB te))(hh:h[id]? =some (.cells (some tB) [a, .nils]))(ha:a= .nilp∨a= .ptr id 0)
  {n:Int} (h0:0≤n) (hm:n≤B4):
  B6 tb (C1 tb) h ngw [.ptr id 0, .i .i64 n]=some (.tup [],some (if 0<n then h.set id (.cells (some tB) [.ptr id 0, .orow h.length 0 0 0])++[.row (some te) false 1 []]else h.set id (.cells (some tB) [.ptr id 0, .nils]))):=by
 have hc:=Vl hcc hne hh ha
 have hid:=(List.getElem?_eq_some_iff.1 hh).1
 have hs:(h.set id (BW.cells (some tB) [.ptr id 0, .nils]))[id]? =some (.cells (some tB) [.ptr id 0, .nils]):=List.getElem?_set_self hid
 have h2:=GR hs
 simp only[B6,hf.1]
 rw[Pv,hf.2]
 simp only[Option.bind_some]
 have hld:load (h.set id (BW.cells (some tB) [.ptr id 0, .nils])) false 1 (.ptr id 1)=some .nils:=by simp[load,place,h2.1,HS,sub]
 by_cases hp:0<n
 ·have hgc:B6 tb (C1 tb) (h.set id (.cells (some tB) [.ptr id 0, .nils])) ngr [.ptr id 0, .i .i64 n]=some (.tup [],some (h.set id (.cells (some tB) [.ptr id 0, .orow h.length 0 0 0])++[.row (some te) false 1 []])):=by
   simp only[B6,hgr,YF,hs]
   simp[h0,hm,List.set_set]
  obtain⟨f',e1⟩:=vQ (tb:=tb) (tS:=tS) (ncc:=ncc) (ngr:=ngr) h0 hc hld (by rw[if_pos hp];exact hgc)
  rw[Ok (tb:=tb) (h:=h) (fn:=Ra tS ncc ngr) (args:=[.ptr id 0, .i .i64 n]) (vs:=[]) rfl rfl e1 (.inr rfl) rfl,if_pos hp]
  exact congrArg some (SP h.length _ (Zi (te:=te) (tB:=tB) (s:=[]) hid rfl) [] rfl false)
 ·obtain⟨f',e1⟩:=vQ (tb:=tb) (tS:=tS) (ncc:=ncc) (ngr:=ngr) h0 hc hld (by rw[if_neg hp])
  rw[Ok (tb:=tb) (h:=h) (fn:=Ra tS ncc ngr) (args:=[.ptr id 0, .i .i64 n]) (vs:=[]) rfl rfl e1 (.inr rfl) rfl,if_neg hp]
  obtain⟨u,hu,rfl⟩:=LG false h.length (h.set id (.cells (some tB) [.ptr id 0, .nils])) (by simp) [] rfl
  exact congrArg some hu
variable{Γ:Cx}{x y:AO}
def fJ(l:AR)(n:Int):Option AR:=if l=[]∧0≤n∧n≤B4 then some []else none
theorem M_bldR{d j:Nat}{l:AR}{n:Int}(hcc:tb.prim ncc=none∧tb.fns ncc=some (ML tB nne))(hne:tb.prim nne=some Oy)(hf:tb.prim ngw=none∧tb.fns ngw=some (Ra tS ncc ngr))(hgr:tb.prim ngr=some (YF tB te))
  (ha:Dd tb Γ x (.own j)) (hj:AG Γ.ss j=some (.dom (P5 tB te false) l)) (hb:Dd tb Γ y (.val (T.int .i64) n)):
  Xs tb Γ (some d) (.call ngw [x,y]) (fJ l n) fun _=>⟨(d, .junk)::Γ.ts,(j, .dom (P5 tB te (decide (0<n))) ([]:AR))::Γ.ss⟩:=by
 intro E rv fp f H R l' hl'
 simp only[fJ]at hl'
 split at hl'
 ·rename_i hm
  cases hl'
  obtain⟨rfl,h0,hm⟩:=hm
  obtain⟨hl,hv⟩:=ha E rv fp f H R
  obtain⟨id,e,⟨_,_,a,hx,hh,hF⟩|⟨hg,r,hne',hh,hr,hF⟩⟩:=R.slots j _ hj
  ·have hid:=Bb hh
   have hev:=Aa9 (te:=te) hf hcc hne hgr hh hx h0 hm
   by_cases hp:0<n
   ·rw[if_pos hp]at hev
    obtain⟨rv',fp',g1,g2,g3⟩:=R.dom (D:=P5 tB te (decide (0<n))) (y:=([]:AR)) (G:=H.set id (.cells (some tB) [.ptr id 0, .orow H.length 0 0 0])++[.row (some te) false 1 []]) (F':=fun i=>i=id∨i=H.length) (by rw[hj];rfl) hl (by simp)
     (fun i hi hn=>by rw[List.getElem?_append_left (by simpa using hi)];exact List.getElem?_set_ne fun e=>hn ((hF i).2 e.symm))
     (fun i hi=>by
      rcases hi with rfl|rfl
      ·exact .inl ((hF _).2 rfl)
      ·exact .inr ⟨Nat.le_refl _,by simp⟩)
     (by
      rw[PH]
      have:=HX (l:=H) (i:=id) (o:= .cells (some tB) [.ptr id 0, .orow H.length 0 0 0]) (m:=H.length+1) (by have:=R.wf;omega) (by simp only[ED,Bu,BS];omega)
      simp only[Dh,ED,Di,List.length_append,List.length_set,List.length_cons,List.length_nil]
      omega) rfl
     (fun Q=>⟨id,e, .inr ⟨.inl (by simpa using hp),H.length,by omega,by
      rw[List.getElem?_append_left (by simpa using hid)]
      exact List.getElem?_set_self hid,by
      rw[List.getElem?_append_right (by simp)];simp[B1],fun i=>Iff.rfl⟩⟩)
    refine⟨.tup [],some _,?_,rv',fp',g3.push (d:=d) (φ:= .junk) trivial⟩
    simp only[Bz,List.map_cons,List.map_nil,hv,e,Cr.1 (hb E rv fp f H R)]
    exact hev
   ·rw[if_neg hp]at hev
    obtain⟨rv',fp',g1,g2,g3⟩:=R.dom (D:=P5 tB te (decide (0<n))) (y:=([]:AR)) (G:=H.set id (.cells (some tB) [.ptr id 0, .nils])) (F':=fp j) (by rw[hj];rfl) hl (by simp)
     (fun i hi hn=>List.getElem?_set_ne fun e=>hn ((hF i).2 e.symm)) (fun i hi=> .inl hi)
     (by simp only[List.length_set];exact HX R.wf (by simp only[ED,Bu,BS];omega)) rfl
     (fun Q=>⟨id,e, .inl ⟨by simpa using hp,rfl,_, .inr rfl,List.getElem?_set_self hid,hF⟩⟩)
    refine⟨.tup [],some _,?_,rv',fp',g3.push (d:=d) (φ:= .junk) trivial⟩
    simp only[Bz,List.map_cons,List.map_nil,hv,e,Cr.1 (hb E rv fp f H R)]
    exact hev
  ·rcases hg with hg|hg
   ·cases hg
   ·exact absurd rfl hg
 ·cases hl'
end
end Go.Proofs.YtobejhpigbllpaaGreatDoor.Am
namespace Go.Proofs.YtobejhpigbllpaaGreatDoor.Am
section
variable{tb:Dg}{Γ:Cx}
variable{ks:List Kf}{ρ:Type}{Q:MR ρ}
def MB(n:Int):UInt8:=UInt8.ofNat (n%256).toNat
def CM(n:Int):UInt16:=UInt16.ofNat (n%65536).toNat
def Dt(n:Int):UInt32:=UInt32.ofNat (n%4294967296).toNat
def DA(n:Int):UInt64:=UInt64.ofNat (n%18446744073709551616).toNat
end
end Go.Proofs.YtobejhpigbllpaaGreatDoor.Am
namespace Go.Proofs.YtobejhpigbllpaaGreatDoor.Am
section
variable{tb:Dg}{Γ:Cx}{a b:AO}
theorem Zb{sz:Nat}: ∀(k:Nat) (css:List (List AV)) (cs:List AV),css.length=k→(∀e∈css,e.length=sz)→cs.take (k*sz)=css.flatten→BK sz k cs=css
 |0,css,cs,h,_,_=>by rw[List.eq_nil_of_length_eq_zero h];rfl
 |k+1,y::css,cs,hk,hall,hc=>by
  have hy:=hall y (by simp)
  simp only[BK]
  simp only[List.flatten_cons]at hc
  have hA:cs.take sz=y:=by
   have:=congrArg (List.take sz) hc
   rw[List.take_take,Nat.min_eq_left (by rw[Nat.succ_mul];omega),List.take_left' hy]at this
   exact this
  have hB:(cs.drop sz).take (k*sz)=css.flatten:=by
   have:=congrArg (List.drop sz) hc
   rw[List.drop_left' hy,List.drop_take,Nat.succ_mul,Nat.add_sub_cancel]at this
   exact this
  rw[hA,Zb k css (cs.drop sz) (by simpa using hk) (fun e he=>hall e (by simp[he])) hB]
theorem uP{t u:T}{x:t.α}{j o o' k m n N sz:Nat}{ps:List (Nat×AL)}(F:AZ t (T.arr n u) o')(hsz:sz=u.sz)(ha:Dd tb Γ a (.oc j (o+k*sz) sz m))(hj:AG Γ.ss j=some (.cells ps))(hp:KF ps o=some (N, .val t x,o'))(hkm:k+m≤n)
  {E:P4} {rv:Nat→AV} {fp:Fp} {f:Fr} {H:Ax} (R:Bx E Γ rv fp f H):
  ∃id els,id<H.length∧fp j id∧eval tb f a= .ocel u.sz id (o+k*u.sz) m∧EP H u.sz (.ocel u.sz id (o+k*u.sz) m)=some els∧Do u (Pf E Γ.ss fp H) H els (((F.get x).l.drop k).take m):=by
 subst hsz
 obtain⟨l,id,e,hv⟩:=ha E rv fp f H R
 obtain⟨cs,h0,h2,h3⟩:=Hh R hj e
 obtain⟨b',c,e0,e1,e2,e3,e4,e5,_⟩:=GO h3 hp
 have hfp:fp j id:=(h0 id).2 rfl
 have hlt:=(R.fplt j id l hfp).1
 have hlen:=t.len e4
 have hle:=F.le
 have hszA:(T.arr n u).sz=n*u.sz:=rfl
 rw[hszA]at hle
 have hmul:k*u.sz+m*u.sz≤n*u.sz:=by rw[←Nat.add_mul];exact Nat.mul_le_mul_right _ hkm
 obtain⟨css,q1,q2⟩:=F.getR e4
 have hlc:css.length=n:=by rw[q2.length];exact(F.get x).len
 have hs1:=e5 o' (n*u.sz) (by omega)
 rw[←e1]at hs1
 have hch:BK u.sz n (cs.drop o)=css:=Zb n css (cs.drop o) hlc q2.lens (by rw[show(cs.drop o).take (n*u.sz)=sub cs o (n*u.sz)from rfl,hs1,←q1];rfl)
 have hsub:=LR (sz:=u.sz) (len:=n) (c:=k) (d:=k+m) (l:=cs.drop o) (by omega) hkm
 refine⟨id,(css.take (k+m)).drop k,hlt,hfp,hv,?_,?_⟩
 ·simp only[EP,h2,Option.bind_some]
  rw[if_pos ⟨trivial,by omega⟩]
  rw[←hch,hsub,List.drop_drop,Nat.add_sub_cancel_left]
 ·have:=(q2.take (n:=k+m)).drop (n:=k)
  simp only[List.drop_take,Nat.add_sub_cancel_left]at this ⊢
  exact this
theorem a_s{t u:T}{x:t.α}{j o o' k m n N sz:Nat}{ps:List (Nat×AL)}(F:AZ t (T.arr n u) o')(hsz:sz=u.sz)(ha:Dd tb Γ a (.oc j (o+k*sz) sz m))(hj:AG Γ.ss j=some (.cells ps))(hp:KF ps o=some (N, .val t x,o'))(hkm:k+m≤n):
  ArgP tb Γ a (T.sl u) (.mk (((F.get x).l.drop k).take m)):=by
 intro E rv fp f H R
 obtain⟨id,els,h1,_,h3,h4,h5⟩:=uP F hsz ha hj hp hkm R
 rw[h3]
 exact Ka.2 ⟨h1,els,h4,h5.mono fun i hi=>⟨Pf.lt R.le hi,rfl⟩⟩
theorem fH{c:Prop} [Decidable c]{g:Nat}{As Rs:List T}{F:CF As→Option (CF Rs)}{l:List AO}{x:CF As}(sp:Spec tb g As Rs F)(fl:Uy Rs)(hx:c→cE tb Γ As l x):Gd tb Γ (.call g l) (if c then F x else none) fun r=>sX Rs r:=by
 intro E rv fp f H R r hr
 split at hr
 ·rename_i hc;exact Aa8 sp fl (hx hc) E rv fp f H R r hr
 ·cases hr
theorem Nh{c:Prop} [Decidable c]{g:Nat}{As:List T}{t:T}{F:CF As→Option (CF [t])}{l:List AO}{x:CF As}(sp:Spec tb g As [t] F)(fl:Uy [t])(hx:c→cE tb Γ As l x):Gd tb Γ (.call g l) (if c then F x else none) fun r:t.α=> .val t r:=fH sp fl hx
theorem qK{c:Prop} [Decidable c]{g:Nat}{As:List T}{t u:T}{Rs:List T}{F:CF As→Option (CF (t::u::Rs))}{l:List AO}{x:CF As}(sp:Spec tb g As (t::u::Rs) F)(fl:Uy (t::u::Rs))(hx:c→cE tb Γ As l x):
  Gd tb Γ (.call g l) (if c then F x else none) fun r=> .tup (rQ (t::u::Rs) r):=fH sp fl hx
theorem n_oc{t u:T}{x:t.α}{j o o' k m n N sz:Nat}{ps:List (Nat×AL)}(F:AZ t (T.arr n u) o')(hsz:sz=u.sz)(ha:Dd tb Γ a (.oc j (o+k*sz) sz m))(hj:AG Γ.ss j=some (.cells ps))(hp:KF ps o=some (N, .val t x,o'))(hkm:k+m≤n):
  xD tb Γ a u (((F.get x).l.drop k).take m):=by
 intro E rv fp f H R
 obtain⟨id,els,h1,_,h3,h4,h5⟩:=uP F hsz ha hj hp hkm R
 exact⟨els,by rw[h3];exact h4,h5⟩
theorem M_if{c:Prop} [Decidable c]{d:Option Nat}{o:Im}{α:Type}{A:Option α}{G:α→Cx}(h:c→Xs tb Γ d o A G):Xs tb Γ d o (if c then A else none) G:=by
 intro E rv fp f H R r hr
 split at hr
 ·rename_i hc;exact h hc E rv fp f H R r hr
 ·cases hr
def Yy{α:Type}(n:Nat)(g:GS α):Option (Ar α n):=if h:0<n∧n≤g.l.length then some ⟨g.l.take n,by rw[List.length_take];omega⟩else none
theorem S5.arr{n:Nat}{t:T}{P:Nat→Prop}{H:Ax}{v:AV}{g:GS t.α}{y:Ar t.α n}(h:S5 t P H v g)(hy:Yy n g=some y): ∃p,Uu n t.sz v=some p∧iU (T.arr n t) P H p y:=by
 simp only[Yy]at hy
 split at hy
 ·rename_i hc
  cases hy
  cases g with
  |nil=>simp[GS.l]at hc;omega
  |mk l=>
   obtain⟨bp,els,e,h⟩:=h
   simp only[GS.l]at hc
   have hlen:=h.length
   have htk:=h.take (n:=n)
   have hszA:(T.arr n t).sz=n*t.sz:=rfl
   have hR: ∀G:List AV,G.take (n*t.sz)=(els.take n).flatten→(T.arr n t).R P H (sub G 0 (T.arr n t).sz) ⟨l.take n,by rw[List.length_take];omega⟩:=fun G hG=>⟨els.take n,by rw[hszA,←hG];simp[sub],htk⟩
   have hfl:(els.take n).flatten.length=n*t.sz:=by rw[Tl htk.lens,List.length_take,Nat.min_eq_left (by omega)]
   cases v<;>simp only[LV]at bp<;>simp only[EP]at e
   ·split at e
    ·rename_i hs
     cases e
     subst hs
     refine⟨.ip (els.take n).flatten 0,by simp only[Uu];rw[if_pos ⟨trivial,by omega⟩],trivial,_,0,rfl,by rw[hszA,hfl];omega,hR _ (by rw[List.take_of_length_le (by omega)]),fun m hm=> ?_⟩
     simp only[BS]
     have:=(T.arr n t).men (x:=⟨l.take n,by rw[List.length_take];omega⟩) ⟨els.take n,rfl,htk⟩ hm
     exact this
    ·cases e
   ·rename_i id k lo len
    obtain⟨r,hr,e⟩:=Option.bind_eq_some_iff.1 e
    split at e
    ·rename_i hcd
     cases e
     have hll:len=l.length:=by rw[←hlen,List.length_take,List.length_drop];omega
     have hsplit:(r.2.2.drop lo).flatten=(((r.2.2.drop lo).take len).take n).flatten++((r.2.2.drop lo).drop n).flatten:=by
      rw[List.take_take,Nat.min_eq_left (by omega),←List.flatten_append,List.take_append_drop]
     refine⟨.pe id k lo 0,by simp only[Uu];rw[if_pos ⟨by omega,hc.1⟩],bp,_,0,by simp only[place,hr,Option.bind_some,if_pos hcd.1];rfl,?_,hR _ ?_,fun m hm=>by simp only[BS];exact hm _ bp⟩
     ·rw[hszA,hsplit,List.length_append,hfl];omega
     ·rw[hsplit,List.take_left' hfl]
    ·cases e
   ·rename_i sz' id off len
    obtain⟨r,hr,e⟩:=Option.bind_eq_some_iff.1 e
    split at e
    ·rename_i hcd
     have he:some (BK t.sz len (r.drop off))=some els:=e
     cases he
     obtain⟨hs,hcd⟩:=hcd
     subst hs
     have hcl: ∀(n:Nat) (l:List AV),(BK t.sz n l).length=n:=by
      intro n
      induction n with
      |zero=>intro l;rfl
      |succ n ih=>intro l;simp[BK,ih]
     have hll:len=l.length:=by rw[←hlen,hcl]
     have hnl:n≤len:=by omega
     have hmul:n*t.sz≤len*t.sz:=Nat.mul_le_mul_right _ hnl
     have hsub:=LR (sz:=t.sz) (len:=len) (c:=0) (d:=n) (l:=r.drop off) (by omega) hnl
     simp only[List.drop_zero,Nat.zero_mul,Nat.sub_zero]at hsub
     have hcf: ∀(n:Nat) (l:List AV),n*t.sz≤l.length→(BK t.sz n l).flatten=l.take (n*t.sz):=by
      intro n
      induction n with
      |zero=>intro l _;simp[BK]
      |succ n ih=>
       intro l hl
       simp only[BK,List.flatten_cons]
       rw[ih _ (by simp;rw[Nat.succ_mul]at hl;omega),Nat.succ_mul,Nat.add_comm (n*t.sz),List.take_add]
     refine⟨.ptr id off,by simp only[Uu];rw[if_pos ⟨trivial,hnl⟩],bp,r,off,by simp[place,hr],by rw[hszA];omega,?_,fun m hm=>by simp only[BS];exact hm _ bp⟩
     have:sub r off (T.arr n t).sz=sub (r.drop off) 0 (T.arr n t).sz:=by simp[sub]
     rw[this]
     exact hR _ (by rw[hsub,hcf n _ (by simp;omega)])
    ·cases e
 ·cases hy
theorem h_s2aV{n sz:Nat}{t:T}{g:GS t.α}(hsz:sz=t.sz)(ha:Dd tb Γ a (.val (T.sl t) g)):Gd tb Γ (.s2a n sz a) (Yy n g) fun y=> .rp (T.arr n t) y:=by
 intro E rv fp f H R y hy
 subst hsz
 obtain⟨p,h1,h2⟩:=(Ka.1 (ha E rv fp f H R)).arr hy
 exact⟨p,none,by simp only[Bz,h1,val,Option.map_some],rfl,h2⟩
variable{ks:List Kf}{ρ:Type}{Q:MR ρ}
def Xr{q:Bool}{L l rest:List Bl}{g t d:Nat}{b:Bool}(n:Nat)(og:BI Γ.ts g=some (.val T.b b))(h:JK g true n L=some (l,⟨some d,none, .pick (.t g) (.t t) (.k (.b false))⟩::rest))(hc:Si g l Γ.ts=true)
  (main:Aa tb (Γ.push g (.val T.b true)) (rg q (l++⟨some d,none, .pick (.t g) (.t t) (.k (.b false))⟩::rest)) ks Q) (els:Aa tb (Γ.push d (.val T.b false)) (rg q rest) ks Q):Aa tb Γ (rg q L) ks Q:=
 ⟨if b=true then main.m else els.m,fun E f H ⟨rv,fp,I⟩ r hr=>by
  have hL:=G5 h
  simp only[Si,Bool.and_eq_true,Bool.not_eq_true']at hc
  obtain⟨hc1,hc2,hc3⟩:=hc
  have hg:=Fz.1 (I.temps g _ og)
  have hng:=II hc2
  cases b with
  |true=>
   obtain⟨e,f',H',h4,h5⟩:=main.ok E f H ⟨rv,fp,I.le,I.base,I.wf,I.fplt,I.rvlt,I.scal,I.inj,I.slots,fun u φ e=>by
    simp only[Cx.push,BI]at e
    split at e
    ·rename_i hu;cases e;subst hu;exact Fz.2 hg
    ·exact I.temps u φ e,I.gh⟩ r (by simpa using hr)
   exact⟨e,f',H',by rw[hL,N1 hg hng];exact h4,h5⟩
  |false=>
   obtain⟨f',h1,h2⟩:=Mh (tb:=tb) (q:=q) (w:=true) (H:=H) hg hng hc1 (by simp)
   have hp:Bz tb (C1 tb) (eval tb f') H (.pick (.t g) (.t t) (.k (.b false)))=some (.b false,none):=by
    simp only[Bz,eval,h2 g hng,hg];rfl
   have I':Bx E Γ rv fp f' H:=I.fr fun u φ e=>h2 u (HT hc3 e)
   obtain⟨e,f2,H2,h4,h5⟩:=els.ok E _ H ⟨rv,fp,VX I'⟩ r (by simpa using hr)
   exact⟨e,f2,H2,by rw[hL,E9 h1,DW hp rfl];exact h4,h5⟩⟩
def Aa.orX{q:Bool}{L l rest:List Bl}{g t d:Nat}{b:Bool}(n:Nat)(og:BI Γ.ts g=some (.val T.b b))(h:JK g false n L=some (l,⟨some d,none, .pick (.t g) (.k (.b true)) (.t t)⟩::rest))(hc:Si g l Γ.ts=true)
  (main:Aa tb (Γ.push g (.val T.b false)) (rg q (l++⟨some d,none, .pick (.t g) (.k (.b true)) (.t t)⟩::rest)) ks Q) (els:Aa tb (Γ.push d (.val T.b true)) (rg q rest) ks Q):Aa tb Γ (rg q L) ks Q:=
 ⟨if b=true then els.m else main.m,fun E f H ⟨rv,fp,I⟩ r hr=>by
  have hL:=G5 h
  simp only[Si,Bool.and_eq_true,Bool.not_eq_true']at hc
  obtain⟨hc1,hc2,hc3⟩:=hc
  have hg:=Fz.1 (I.temps g _ og)
  have hng:=II hc2
  cases b with
  |false=>
   obtain⟨e,f',H',h4,h5⟩:=main.ok E f H ⟨rv,fp,I.le,I.base,I.wf,I.fplt,I.rvlt,I.scal,I.inj,I.slots,fun u φ e=>by
    simp only[Cx.push,BI]at e
    split at e
    ·rename_i hu;cases e;subst hu;exact Fz.2 hg
    ·exact I.temps u φ e,I.gh⟩ r (by simpa using hr)
   exact⟨e,f',H',by rw[hL,N1 hg hng];exact h4,h5⟩
  |true=>
   obtain⟨f',h1,h2⟩:=Mh (tb:=tb) (q:=q) (w:=false) (H:=H) hg hng hc1 (by simp)
   have hp:Bz tb (C1 tb) (eval tb f') H (.pick (.t g) (.k (.b true)) (.t t))=some (.b true,none):=by
    simp only[Bz,eval,h2 g hng,hg];rfl
   have I':Bx E Γ rv fp f' H:=I.fr fun u φ e=>h2 u (HT hc3 e)
   obtain⟨e,f2,H2,h4,h5⟩:=els.ok E _ H ⟨rv,fp,VX I'⟩ r (by simpa using hr)
   exact⟨e,f2,H2,by rw[hL,E9 h1,DW hp rfl];exact h4,h5⟩⟩
theorem cC{d:Nat}{zero:List AV}{φs:List AL}(j:Nat)(hx: ∀rv ss P H,iR rv ss P H φs zero)(hc:zero.all scal=true)(hn:φs.all NA=true)(hf:Tk Γ.ss j φs){js:List Nat}(hjs:js=List.range' j φs.length):
  OpN tb Γ (some d) (.bld zero []) ⟨(d, .aggk js)::Γ.ts,iL j φs Γ.ss⟩:=by
 intro E rv fp f H R
 subst hjs
 have hv:=hx rv Γ.ss (Pf E Γ.ss fp H) H
 obtain⟨rv',fp',h1,h2,_,h4⟩:=R.keepL (j:=j) hf hv (iR.men R.ltP R.rvlt hn hv)
 refine⟨.agg zero,none,by simp only[Bz,LN,val,Option.map_some],rfl,rv',fp',h4.push (d:=d) (φ:= .aggk _) ⟨h2,?_⟩⟩
 have e:((List.range' j φs.length).flatMap fun j=>cellsOf (rv' j))=((List.range' j φs.length).map rv').flatMap cellsOf:=by rw[List.flatMap_map]
 have hz: ∀l:List AV,l.all scal=true→l.flatMap cellsOf=l:=by
  intro l
  induction l with
  |nil=>intro _;rfl
  |cons x l ih=>
   intro h
   simp only[List.all_cons,Bool.and_eq_true]at h
   rw[List.flatMap_cons,Js h.1,ih h.2];rfl
 rw[e,h1,hz _ hc]
theorem Bx.keepCell{E:P4}{rv:Nat→AV}{fp:Fp}{f:Fr}{H:Ax}(I:Bx E Γ rv fp f H){j' j n:Nat}{js:List Nat}(hj':AG Γ.ss j'=none)(h:BI Γ.ts n=some (.cp j 0))(ho:RF Γ.ss js=true)(hj:AG Γ.ss j=some (.cells (kvs js))):
  ∃rv' fp',Bx E ⟨Γ.ts,(j', .keep (.aggk js))::Γ.ss⟩ rv' fp' f H:=by
 obtain⟨g1,g2,g3⟩:=N9 I ho
 have hfr:FR rv Γ.ss (Pf E Γ.ss fp H) H (.aggk js) (.agg (js.flatMap fun j=>cellsOf (rv j))):=⟨g2,rfl⟩
 obtain⟨rv',fp',_,_,h3,_⟩:=I.keepNew hj' hfr (FR.men I.ltP I.rvlt (by rintro⟨⟩) hfr)
 exact⟨rv',fp',h3⟩
theorem Ei{js:List Nat}{j j' n m:Nat}(h:BI Γ.ts n=some (.cp j 0))(ho:RF Γ.ss js=true)(hj:AG Γ.ss j=some (.cells (kvs js)))(hk:AG Γ.ss j'=some (.keep (.aggk js)))(hm:m=js.length):xA Γ (.cell true m n) (.kv j'):=by
 intro E rv fp f H R r vs hr
 obtain⟨v,h1,h2⟩:=D9 h ho hj hm E rv fp f H R r vs hr
 obtain⟨h3,_⟩:=R.slots j' _ hk
 exact⟨v,h1,fun k hk'=>by rw[List.mem_singleton.1 hk',hk];rfl,h2.2.trans h3.2.symm⟩
def Ab{q:Bool}{d n:Nat}{l:List Bl}{φ:AL}(h:BI Γ.ts n=some φ)(k:Aa tb (Γ.push d φ) (rg q l) ks Q):Aa tb Γ (rg q (⟨some d,none, .mv (.t n)⟩::l)) ks Q:=Ad (Aq (Ag h)) k
def Ah{q:Bool}{x y:AC}(s:Aa tb Γ x (.seq y::ks) Q):Aa tb Γ (rg q []) (.seq (.seq x y)::ks) Q:=Ac (Af s)
theorem Aw{op:BinOp}{a b:AO}{x y:Int}(h:nL op=true)(ha:Dd tb Γ a (.val (T.int .i64) x))(hb:Dd tb Γ b (.val (T.int .i64) y)):Gd tb Γ (.bin op a b) (some (cmpI op x y)) fun z=> .val T.b z:=JC (I:=IT.int .i64) h ha hb
abbrev oz(d:Nat)(x:Im):Bl:=⟨some d,none,x⟩
abbrev on(x:Im):Bl:=⟨none,none,x⟩
def BR{c:AC}(j' n:Nat){j:Nat}{js:List Nat}(hj':AG Γ.ss j'=none)(h:BI Γ.ts n=some (.cp j 0))(ho:RF Γ.ss js=true)(hj:AG Γ.ss j=some (.cells (kvs js)))(s:Aa tb ⟨Γ.ts,(j', .keep (.aggk js))::Γ.ss⟩ c ks Q):Aa tb Γ c ks Q:=
 s.turn fun _ _ _ ⟨_,_,I⟩=>I.keepCell hj' h ho hj
def qU(n:Int):AR:=(Utf8.encode n).data.toList
theorem h_cvcE{I:IT}{x:I.t.α}(ha:Dd tb Γ a (.val I.t x)):Gd tb Γ (.cvc a) (some (qU (I.toI x))) fun z=> .val Ak z:=h_cvcI ha
theorem aP(ha:Dd tb Γ a (.con .nils)):Gd tb Γ (.len a) (some ()) fun _=> .val (T.int .i64) (0:Int):=by
 rintro E rv fp f H R _ ⟨⟩
 obtain⟨hv,_⟩:=ha E rv fp f H R
 exact⟨.i .i64 0,none,by simp only[Bz,hv,Pb,Option.map_some];rfl,rfl,Cr.2 rfl⟩
theorem aO{g:Nat}{z:Bool}{x:AO}(og:Dd tb Γ (.t g) (.val T.b true))(ho:Dd tb Γ a (.val T.b z)):Gd tb Γ (.pick (.t g) a x) (some ()) fun _=> .val T.b z:=by
 rintro E rv fp f H R _ ⟨⟩
 exact⟨_,none,by simp only[Bz,Fz.1 (og E rv fp f H R)];rfl,rfl,ho E rv fp f H R⟩
theorem Aa6{g:Nat}{z:Bool}{x:AO}(og:Dd tb Γ (.t g) (.val T.b false))(ho:Dd tb Γ a (.val T.b z)):Gd tb Γ (.pick (.t g) x a) (some ()) fun _=> .val T.b z:=by
 rintro E rv fp f H R _ ⟨⟩
 exact⟨_,none,by simp only[Bz,Fz.1 (og E rv fp f H R)];rfl,rfl,ho E rv fp f H R⟩
end
theorem sB{p:Prop}(h:p:=by repeat' constructor):p:=h
abbrev Cz(tb:Dg)(c:D7)(As Rs:List T)(a:CF As):=Aa tb ⟨Uv As 0 a,[]⟩ c.body [] (QRes Rs c.res)
end Go.Proofs.YtobejhpigbllpaaGreatDoor.Am
namespace Go.Proofs.YtobejhpigbllpaaGreatDoor.Am
def Gk(l:List UInt8):Nat×Bool:=match Lib.parseUintB 64 l with
 | .ok u=>(u,false)
 | .range=>(18446744073709551615,true)
 |_=>(0,true)
theorem pO(l:List UInt8):(Gk l).1<18446744073709551616:=by
 unfold Gk
 split
 ·rename_i u h
  unfold Lib.parseUintB at h
  split at h
  ·cases h
  ·have:=Lib.parseUintM_le _ l 0 u (Nat.zero_le _) h
   show u<18446744073709551616
   omega
 ·show(18446744073709551615:Nat)<_;omega
 ·show(0:Nat)<_;omega
def Wc:List AV→Ax→Option (AV×Option Ax)
 |[.s l, .i .i64 b, .i .i64 z],_=>if b=10∧z=64∧l.length≤B4 then some (.tup [.i .u64 ((Gk l).1:Nat),if(Gk l).2 then .ifc 0 .junk else .nili],none)else none
 |_,_=>none
def Zq(P:Program)(g gS gR:Nat):Prop:= ∀(l:List UInt8) (w:World) (eS eR:Value),l.length≤281474976710656→w.cell? ⟨gS,0,none⟩=some eS→(∃t a,eS= .iface t a)→w.cell? ⟨gR,0,none⟩=some eR→(∃t a,eR= .iface t a)→
 Calls P g #[.string ⟨l.toArray⟩, .int .i64 10, .int .i64 64] w fun e w'=> ∃v,e= .returned (.tuple #[.int .u64 ((Gk l).1:Nat),v])∧(if(Gk l).2 then∃t a,v= .iface t a else v= .nilIface)∧RowKit.Below w.heap.size w w'
theorem jG{P:Program}{tb:Dg}{g gS gR:Nat}(hen:gQ P g=true)(hS:tb.gl gS=some [.ifc 0 .junk])(hR:tb.gl gR=some [.ifc 0 .junk])(hg:Zq P g gS gR):
  Fs P tb fun g' args h=>if g'=g then Wc args h else none:=by
 intro g' C args vs r I hr h
 dsimp only at h
 split at h
 ·rename_i hgg
  subst hgg
  unfold Wc at h
  split at h
  ·rename_i hp l b z
   split at h
   ·rename_i hc
    obtain⟨rfl,rfl,hl⟩:=hc
    cases h
    obtain⟨v,vs',e1,r1,v2,vs2,e2,r2,v3,vs3,e3,r3,e4⟩:=hr
    have e4':vs3=[]:=e4
    have r1':v= .string ⟨l.toArray⟩:=r1
    have r2':v2= .int .i64 10:=r2
    have r3':v3= .int .i64 64:=r3
    subst e4';subst e3;subst e2;subst e1;subst r1';subst r2';subst r3'
    have gl: ∀q,tb.gl q=some [.ifc 0 .junk]→ ∃ev,C.w.cell? ⟨q,0,none⟩=some ev∧ ∃t a,ev= .iface t a:=by
     intro q hq
     obtain⟨_,_,_,us,hh,v,q',e,⟨t,a,rfl,_⟩,e'⟩:=I.gl q _ hq
     have e'':q'=[]:=e'
     subst e'';subst e
     exact⟨_,hh 0 _ rfl,t,a,rfl⟩
    obtain⟨eS,c1,t1⟩:=gl gS hS
    obtain⟨eR,c2,t2⟩:=gl gR hR
    refine .inr ⟨g',_,LP hen _ _,(hg l C.w eS eR (by unfold B4 at hl;omega) c1 t1 c2 t2).mono ?_⟩
    rintro ee w' ⟨v,rfl,hv,hb⟩
    obtain⟨X,hI⟩:=grown I (w:=w') ⟨hb.os,hb.tape,hb.output⟩ hb.size hb.block
    refine⟨_,_,rfl,X,hI,rfl,rfl,[.int .u64 ((Gk l).1:Nat),v],rfl,_,_,rfl,rfl,_,_,rfl,?_,rfl⟩
    split at hv
    ·rename_i hq
     obtain⟨t,a,rfl⟩:=hv
     rw[if_pos hq]
     exact⟨t,a,rfl,trivial⟩
    ·rename_i hq
     rw[if_neg hq]
     exact hv
   ·cases h
  ·cases h
 ·cases h
def RE:List AV→Ax→Option (AV×Option Ax)
 |[.s a, .s b],_=>if a.length<4294967281 then some (.i .i64 (Lib.index a b),none)else none
 |_,_=>none
def Zr(P:Program)(g gM:Nat):Prop:= ∀(a b:List UInt8) (w:World) (m:Int),a.length<4294967281→w.cell? ⟨gM,0,none⟩=some (.int .i64 m)→
 Calls P g #[.string ⟨a.toArray⟩, .string ⟨b.toArray⟩] w fun e w'=>e= .returned (.int .i64 (Lib.index a b))∧w'=w
theorem dQ{P:Program}{tb:Dg}{g gM:Nat}(hen:gQ P g=true)(hM:gM∈tb.it)(hg:Zr P g gM):
  Fs P tb fun g' args h=>if g'=g then RE args h else none:=by
 intro g' C args vs r I hr h
 dsimp only at h
 split at h
 ·rename_i hgg
  subst hgg
  unfold RE at h
  split at h
  ·rename_i hp a b
   split at h
   ·rename_i hl
    cases h
    obtain⟨v,vs',e1,r1,v2,vs2,e2,r2,e3⟩:=hr
    have e3':vs2=[]:=e3
    have r1':v= .string ⟨a.toArray⟩:=r1
    have r2':v2= .string ⟨b.toArray⟩:=r2
    subst e3';subst e2;subst e1;subst r1';subst r2'
    obtain⟨_,m,hm⟩:=I.it gM hM
    refine .inr ⟨g',_,LP hen _ _,(hg a b C.w m hl hm).mono ?_⟩
    rintro ee w' ⟨rfl,rfl⟩
    exact⟨_,C,rfl,KM.refl C,I,rfl,rfl,rfl⟩
   ·cases h
  ·cases h
 ·cases h
end Go.Proofs.YtobejhpigbllpaaGreatDoor.Am
namespace Go.Proofs.YtobejhpigbllpaaGreatDoor.Am
def ZQ(s:AR)(b z:Int):Option (UInt64×Bool):=if b=10∧z=64∧s.length≤B4 then some (UInt64.ofNat (Gk s).1,(Gk s).2)else none
theorem mF{tb:Dg}{g:Nat}(hp:tb.prim g=some Wc):Spec tb g [Ak,T.int .i64,T.int .i64] [T.u64,iM] fun a=>ZQ a.1 a.2.1 a.2.2:=by
 rintro P h args ⟨x,y,z⟩ _ _ ⟨v,q,rfl,h1,w,q2,rfl,h2,u,rfl,h3⟩ r hr
 dsimp only at hr
 unfold ZQ at hr
 split at hr
 ·rename_i hc
  cases hr
  obtain⟨hb,hz,hl⟩:=hc
  refine⟨.tup [.i .u64 ((Gk x).1:Nat),if(Gk x).2 then .ifc 0 .junk else .nili],none,?_,rfl,[.i .u64 ((Gk x).1:Nat),if(Gk x).2 then .ifc 0 .junk else .nili],rfl,_,_,rfl,?_,_,rfl,cA.2 rfl⟩
  ·rw[E2.1 h1,Cr.1 h2,Cr.1 h3,hb,hz]
   simp only[B6,hp,Wc]
   simp only[hl,and_self,if_true]
  ·refine bX.2 ?_
   have:=pO x
   have e:(UInt64.ofNat (Gk x).1).toNat=(Gk x).1:=by rw[UInt64.toNat_ofNat'];omega
   rw[e]
 ·cases hr
def indexS(s b:AR):Option Int:=if s.length<4294967281 then some (Lib.index s b)else none
theorem Spec.indexS{tb:Dg}{g:Nat}(hp:tb.prim g=some RE):Spec tb g [Ak,Ak] [T.int .i64] fun a=>Am.indexS a.1 a.2:=by
 rintro P h args ⟨x,y⟩ _ _ ⟨v,q,rfl,h1,w,rfl,h2⟩ r hr
 dsimp only at hr
 unfold Am.indexS at hr
 split at hr
 ·rename_i hl
  cases hr
  refine⟨.i .i64 (Lib.index x y),none,?_,rfl,[.i .i64 (Lib.index x y)],rfl,_,rfl,Cr.2 rfl⟩
  rw[E2.1 h1,E2.1 h2]
  simp only[B6,hp,RE]
  rw[if_pos hl]
 ·cases hr
end Go.Proofs.YtobejhpigbllpaaGreatDoor.Am
