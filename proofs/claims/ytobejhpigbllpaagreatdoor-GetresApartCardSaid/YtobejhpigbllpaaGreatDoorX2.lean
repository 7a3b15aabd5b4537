/-
  Regions: in the order of the text; in any order that the tape draws.
  A region whose order is drawn: one walk, in the order of the text, serves every order.
  The machine's code and the model's; what it runs is what the model runs.
  What a call comes to in the machine, it comes to in the model.
  A call of the machine's is the model's.
  Functions that the machine takes as they are said: those that the model knows as entries of its own.
  Entries of the model's that the machine takes as they are said: a byte's place in bytes, how often it is there.
  What operations come to, on typed values: calls, equality, arrays.
  What operations come to, on typed values: pointers that are only read through.
  A text's runes, one behind another one.
  Regions whose order is drawn, where each operation that reads memory has one place.
  strings.Builder: what its methods come to, on a builder in memory of its own.
  strings.Builder: a builder in memory of its own as one thing, its bytes.
  Values that are kept: functions, structures with functions; calls whose code is walked in place.
  Calls whose code is walked in place.
  What operations come to, on kept values: rows of them, variables with parts, loops that are unrolled.
  Tests that wait for others, by cases; slices of arrays; literals of arrays; tables.
  Tests that wait inside regions whose order is drawn; tables; maps.
  Ways that meet again, each walked once: what comes behind them is told apart from them.
  strings.Builder's grow as a function that the machine takes as it is said.
  strings.Builder: room from the start.
  Variables in parts; what is cleared of a row.
-/
import Derived.Still
import Derived.Tactics
import Derived.LoopN
import Derived.Scope
import Derived.Control
import Derived.Laws.Sem
import GoSem.Extern.Table
import Derived.Lib.Bytealg
import Derived.Lib.MakeNoZero
import Derived.Test.YtobejhpigbllpaaGreatDoorX1
namespace Go.Proofs.YtobejhpigbllpaaGreatDoor.Am
def U8(rs:Array Oper):Option (Nat×Bool)→Option (Nat×Bool)→Bool
 |none,none=>true
 |some (t,w),some (j,w')=>w==w'&&(rs[j]?).bind (·.dst)==some t
 |_,_=>false
def Vv(T:Hj→Oper→Bool)(nt:Nat)(rs:Array Oper)(ao:AQ)(o:Oper):Bool:=
 decide (ao.d=o.dst)&&(match o.dst with|some t=>decide (t<nt)|none=>true)&&U8 rs ao.g o.guard&&T ao.o o
def FN(T:Hj→Oper→Bool)(nt:Nat)(rs:Array Oper):List AQ→List Oper→Bool
 |[],[]=>true
 |x::l,o::r=>Vv T nt rs x o&&FN T nt rs l r
 |_,_=>false
section
variable{T:Hj→Oper→Bool}{P:Program}{tb:CD}{cl:Nat→List AV→Av→JG}{nt:Nat}{rs:Array Oper}
theorem UK{C:Da}{f:Fr}{a:Act}(F:Bn C f a nt){g:Option (Nat×Bool)}{o:Oper}(h:U8 rs g o.guard=true){b:Bool}(hw:wanted f g=some b):
  Region.wanted o (yielded rs a.tmps)=b:=by
 unfold U8 at h
 split at h
 ·rename_i hg
  simp only[wanted,Option.some.injEq]at hw
  subst hw
  simp[Region.wanted,hg]
 ·rename_i t w j w' hg
  simp only[Bool.and_eq_true,beq_iff_eq]at h
  obtain⟨rfl,hj⟩:=h
  simp only[wanted]at hw
  split at hw
  ·rename_i x hx
   simp only[Option.some.injEq]at hw
   subst hw
   have r:=F.rep t
   rw[hx]at r
   have r':a.tmps.getD t undef= .bool x:=r
   have hs:a.tmps[t]? =some (.bool x):=by
    rw[Array.getD_eq_getD_getElem?]at r'
    cases ht:a.tmps[t]? with
    |none=>rw[ht]at r';simp[undef]at r'
    |some v=>rw[ht]at r';simpa using r'
   simp only[Region.wanted,hg,yielded,hj,Option.bind_some,hs]
   cases x<;>cases w<;>rfl
  ·rename_i hx
   simp only[Option.some.injEq]at hw
   subst hw
   have r:=F.rep t
   rw[hx]at r
   obtain⟨vs,r',hv⟩:=r
   have hv':vs=[]:=hv
   subst hv'
   rw[Array.getD_eq_getD_getElem?]at r'
   simp only[Region.wanted,hg,yielded,hj,Option.bind_some]
   cases ht:a.tmps[t]? with
   |none=>rfl
   |some v=>
    rw[ht]at r'
    simp only[Option.getD_some]at r'
    subst r'
    rfl
  ·cases hw
 ·cases h
theorem Ti{ao:AQ}{o:Oper}(h:Vv T nt rs ao o=true):ao.d=o.dst∧(∀t,o.dst=some t→t<nt)∧U8 rs ao.g o.guard=true∧T ao.o o=true:=by
 simp only[Vv,Bool.and_eq_true,decide_eq_true_eq]at h
 obtain⟨⟨⟨h1,h2⟩,h3⟩,h4⟩:=h
 refine⟨h1,fun t ht=> ?_,h3,h4⟩
 rw[ht]at h2
 simpa using h2
theorem nR(hT: ∀ao o,T ao o=true→CZ P tb ao o)(hcl:E4 P tb fun g args h=>Bs tb cl h g args){Q:Exit→Act→World→Prop}:
  ∀(l:List AQ) (os:List Oper),FN T nt rs l os=true→ ∀{C:Da} {f:Fr} {a:Act},Inv tb C→Bn C f a nt→ ∀{f':Fr} {h':Av},ops tb cl l f C.H=some (f',h')→
   (∀(D:Da) (a':Act),JH C D→Inv tb D→D.H=h'→Bn D f' a' nt→Q .normal a' D.w)→wpList P rs Q os a C.w:=by
 intro l
 induction l with
 |nil=>
  intro os h C f a I F f' h' e k
  cases os with
  |cons o os=>simp[FN]at h
  |nil=>
   simp only[ops,Option.some.injEq,Prod.mk.injEq]at e
   obtain⟨rfl,rfl⟩:=e
   exact k C a (H5 C) I rfl F
 |cons ao l ih=>
  intro os h C f a I F f' h' e k
  cases os with
  |nil=>simp[FN]at h
  |cons o os=>
   simp only[FN,Bool.and_eq_true]at h
   obtain⟨h1,h2⟩:=h
   obtain⟨g1,g2,g3,g4⟩:=Ti h1
   simp only[ops]at e
   obtain⟨b,hb,e⟩:=Option.bind_eq_some_iff.1 e
   have hw:=UK F g3 hb
   simp only[wpList,hw]
   cases b with
   |true=>
    simp only[if_true]at e ⊢
    obtain⟨p,hp,e⟩:=Option.bind_eq_some_iff.1 e
    refine .inl (Tb (hT _ _ g4 hcl I F hp) fun v D X ID hH hr=> ?_)
    rw[←g1]
    refine ih os h2 ID (F.put X (fun t ht=>g2 t (g1▸ht)) hr) (by rw[hH];exact e) fun D' a' X'=>k D' a' (X.trans X')
   |false=>
    simp only[Bool.false_eq_true,if_false]at e ⊢
    rw[←g1]
    exact ih os h2 I (F.put (H5 C) (fun t ht=>g2 t (g1▸ht)) (x:= .tup []) ⟨[],rfl,rfl⟩) e k
theorem nF(hT: ∀ao o,T ao o=true→CZ P tb ao o)(hcl:E4 P tb fun g args h=>Bs tb cl h g args){Q:Exit→Act→World→Prop}{l:List AQ}{id:Nat}
  (h:FN T nt rs l rs.toList=true) {C:Da} {f:Fr} {a:Act} (I:Inv tb C) (F:Bn C f a nt) {f':Fr} {h':Av} (e:ops tb cl l f C.H=some (f',h'))
  (k: ∀(D:Da) (a':Act),JH C D→Inv tb D→D.H=h'→Bn D f' a' nt→Q .normal a' D.w):(Code.region id rs false).wp P Q a C.w:=
 wp_region_list (nR hT hcl l _ h I F e k)
def FJ:AO→List Nat
 | .t n=>[n]
 |_=>[]
def ooT:Option AO→List Nat
 |some x=>FJ x
 |none=>[]
def opT:Hj→List Nat
 | .mv x=>FJ x
 | .pick c a b=>FJ c++FJ a++FJ b
 | .alloc _ _=>[]
 | .box _ _ x=>FJ x
 | .bld _ ps=>ps.flatMap fun p=>FJ p.2.2
 | .bls _ _ _ ps=>ps.flatMap fun p=>FJ p.2
 | .bll _ _ ps=>ps.flatMap fun p=>FJ p.2
 | .ld _ _ a=>FJ a
 | .st _ a x=>FJ a++FJ x
 | .nilc x=>FJ x
 | .bin _ x y=>FJ x++FJ y
 | .eq _ _ x y=>FJ x++FJ y
 | .un _ x=>FJ x
 | .cvi _ x=>FJ x
 | .cvid x=>FJ x
 | .cvb _ x=>FJ x
 | .cvr x=>FJ x
 | .cvs x=>FJ x
 | .cvc x=>FJ x
 | .mkf _ a b=>a.flatMap FJ++b.flatMap FJ
 | .mkm=>[]
 | .mks _ _ _ _ l c=>FJ l++FJ c
 | .sls x lo hi=>FJ x++ooT lo++ooT hi
 | .sll _ x lo hi=>FJ x++ooT lo++ooT hi
 | .sla _ _ x lo hi=>FJ x++ooT lo++ooT hi
 | .fa _ x=>FJ x
 | .fld _ _ _ x=>FJ x
 | .ias _ x i=>FJ x++FJ i
 | .iaa _ _ x i=>FJ x++FJ i
 | .ixa _ _ _ x i=>FJ x++FJ i
 | .ixs x i=>FJ x++FJ i
 | .lkp _ _ _ m k=>FJ m++FJ k
 | .mup _ m k v=>FJ m++FJ k++FJ v
 | .rng x=>FJ x
 | .nxt x=>FJ x
 | .ext x _=>FJ x
 | .s2a _ _ x=>FJ x
 | .mkif _ x=>FJ x
 | .call _ xs=>xs.flatMap FJ
 | .callv x xs=>FJ x++xs.flatMap FJ
 | .len x=>FJ x
 | .lens x=>FJ x
 | .app _ _ _ s x=>FJ s++FJ x
 | .cpy _ d s=>FJ d++FJ s
 | .mnx _ x y=>FJ x++FJ y
 | .clr _ x=>FJ x
 | .del _ m k=>FJ m++FJ k
 | .lenm m=>FJ m
 | .cvp x=>FJ x
 | .cvu _ _ x=>FJ x
 | .eqp _ x y=>FJ x++FJ y
 | .isni _ x=>FJ x
 | .capn x=>FJ x
 | .usd x=>FJ x
 | .ust _ x n=>FJ x++FJ n
 | .die=>[]
def Alike(_:CD)(f f':Fr)(ts:List Nat):Prop:= ∀t∈ts,get f t=get f' t
theorem Alike.l{tb:CD}{f f':Fr}{x y:List Nat}(h:Alike tb f f' (x++y)):Alike tb f f' x:=fun t ht=>h t (List.mem_append_left _ ht)
theorem Alike.r{tb:CD}{f f':Fr}{x y:List Nat}(h:Alike tb f f' (x++y)):Alike tb f f' y:=fun t ht=>h t (List.mem_append_right _ ht)
theorem Alike.e{f f':Fr}{x:AO}(h:Alike tb f f' (FJ x)):eval tb f x=eval tb f' x:=by
 cases x with
 |t n=>exact h n (by simp[FJ])
 |_=>rfl
theorem Alike.es{f f':Fr}: ∀{xs:List AO},Alike tb f f' (xs.flatMap FJ)→xs.map (eval tb f)=xs.map (eval tb f')
 |[],_=>rfl
 |x::xs,h=>by
  rw[List.flatMap_cons]at h
  rw[List.map_cons,List.map_cons,h.l.e,Alike.es h.r]
theorem Alike.b{f f':Fr}{lo hi:Option AO}{n:Nat}(h:Alike tb f f' (ooT lo))(h':Alike tb f f' (ooT hi)):GH (eval tb f) n lo hi=GH (eval tb f') n lo hi:=by
 cases lo<;>cases hi
 ·rfl
 ·have e':=Alike.e h'
  simp only[GH,e']
 ·have e:=Alike.e h
  simp only[GH,e]
 ·have e:=Alike.e h
  have e':=Alike.e h'
  simp only[GH,e,e']
theorem Alike.fl{f f':Fr}: ∀{ps:List (Nat×Nat×AO)} {z:List AV},Alike tb f f' (ps.flatMap fun p=>FJ p.2.2)→Ls z (eval tb f) ps=Ls z (eval tb f') ps
 |[],_,_=>rfl
 |(off,n,x)::ps,z,h=>by
  rw[List.flatMap_cons]at h
  simp only[Ls]
  rw[h.l.e]
  split
  ·exact Alike.fl h.r
  ·rfl
theorem Alike.fe{f f':Fr}{sz:Nat}: ∀{ps:List (Nat×AO)} {z:List (List AV)},Alike tb f f' (ps.flatMap fun p=>FJ p.2)→Lt z sz (eval tb f) ps=Lt z sz (eval tb f') ps
 |[],_,_=>rfl
 |(i,x)::ps,z,h=>by
  rw[List.flatMap_cons]at h
  simp only[Lt]
  rw[h.l.e]
  split
  ·exact Alike.fe h.r
  ·rfl
theorem YF{f f':Fr}{h:Av}: ∀{o:Hj},Alike tb f f' (opT o)→Bo tb cl (eval tb f) h o=Bo tb cl (eval tb f') h o:=by
 intro o a
 cases o<;>simp only[opT]at a<;>simp only[Bo]
 case bld=>rw[a.fl]
 case bls=>rw[a.fe]
 case bll=>rw[a.fe]
 case mkf=>rw[a.l.es,a.r.es]
 case sls=>rw[a.l.l.e];split<;>first|rfl|rw[Alike.b a.l.r a.r]
 case sll=>rw[a.l.l.e];congr;funext n;rw[Alike.b a.l.r a.r]
 case sla=>rw[a.l.l.e,Alike.b a.l.r a.r]
 case call=>rw[a.es]
 case callv=>rw[a.l.e,a.r.es]
 case pick=>rw[a.l.l.e,a.l.r.e,a.r.e]
 case mup=>rw[a.l.l.e,a.l.r.e,a.r.e]
 all_goals first
  |rw[a.l.e,a.r.e]
  |rw[a.e]
def gT:Option (Nat×Bool)→List Nat
 |some (t,_)=>[t]
 |none=>[]
theorem YP{f f':Fr}{g:Option (Nat×Bool)}(a:Alike tb f f' (gT g)):wanted f g=wanted f' g:=by
 cases g with
 |none=>rfl
 |some p=>
  obtain⟨t,w⟩:=p
  simp only[wanted]
  rw[a t (by simp[gT])]
def Fk:List (Option (Nat×Nat))→Nat→Nat
 |_,0=>0
 |[],_+1=>0
 |none::w,i+1=>Fk w i+1
 |some _::w,i+1=>Fk w i
def Stepped(tb:CD)(cl:Nat→List AV→Av→JG)(hs:List Av)(k:Nat)(ao:AQ)(w:Option (Nat×Nat))(f:Fr)(v:AV):Prop:=
 ∃t,wanted f ao.g=some t∧(t=false→v= .tup []∧(w=none→hs[k]? =hs[k+1]?))∧
  (t=true→(w=none→ ∃h u,hs[k]? =some h∧Bo tb cl (eval tb f) h ao.o=some (v,u)∧hs[k+1]? =some (u.getD h))∧
   ∀lo hi,w=some (lo,hi)→ ∀j,lo≤j→j≤hi→ ∃h u,hs[j]? =some h∧Bo tb cl (eval tb f) h ao.o=some (v,u)∧u.getD h=h)
theorem nT{hs:List Av}: ∀(l:List AQ) (ws:List (Option (Nat×Nat))) (k:Nat) (f f':Fr),IC tb cl hs l ws k f=some f'→
  ∃(fr:Nat→Fr) (vl:Nat→AV),fr 0=f∧fr l.length=f'∧k+Fk ws l.length+1=hs.length∧
   ∀i ao,l[i]? =some ao→fr (i+1)=put (fr i) ao.d (vl i)∧ ∃w,ws[i]? =some w∧Stepped tb cl hs (k+Fk ws i) ao w (fr i) (vl i):=by
 intro l
 induction l with
 |nil=>
  intro ws k f f' e
  simp only[IC]at e
  split at e
  ·rename_i hk
   obtain rfl:=Option.some.inj e
   exact⟨fun _=>f,fun _=> .junk,rfl,rfl,by simpa [Fk]using hk,fun i ao h=>(by simp at h)⟩
  ·cases e
 |cons ao l ih=>
  intro ws k f f' e
  simp only[IC]at e
  obtain⟨t,ht,e⟩:=Option.bind_eq_some_iff.1 e
  have glue: ∀(w:Option (Nat×Nat)) (ws':List (Option (Nat×Nat))) (v:AV) (k':Nat),ws=w::ws'→k'=k+(match w with|none=>1|some _=>0)→Stepped tb cl hs k ao w f v→
    IC tb cl hs l ws' k' (put f ao.d v)=some f'→ ∃(fr:Nat→Fr) (vl:Nat→AV),fr 0=f∧fr (ao::l).length=f'∧k+Fk ws (ao::l).length+1=hs.length∧
     ∀i x,(ao::l)[i]? =some x→fr (i+1)=put (fr i) x.d (vl i)∧ ∃w,ws[i]? =some w∧Stepped tb cl hs (k+Fk ws i) x w (fr i) (vl i):=by
   intro w ws' v k' hws hk hst h
   subst hws
   obtain⟨fr,vl,h0,h1,h2,h3⟩:=ih ws' k' _ f' h
   have hrank: ∀i,k+Fk (w::ws') (i+1)=k'+Fk ws' i:=by
    intro i
    subst hk
    cases w<;>simp only[Fk]<;>omega
   refine⟨fun i=>match i with|0=>f|i+1=>fr i,fun i=>match i with|0=>v|i+1=>vl i,rfl,h1,by rw[List.length_cons,hrank];exact h2,?_⟩
   intro i x hx
   cases i with
   |zero=>
    simp only[List.getElem?_cons_zero,Option.some.injEq]at hx
    subst hx
    exact⟨h0,w,rfl,hst⟩
   |succ i=>
    obtain⟨g1,w',g2,g3⟩:=h3 i x (by simpa using hx)
    exact⟨g1,w',by simpa using g2,by rw[hrank];exact g3⟩
  cases t with
  |true=>
   simp only[if_true]at e
   obtain⟨h,hh,e⟩:=Option.bind_eq_some_iff.1 e
   obtain⟨p,hp,e⟩:=Option.bind_eq_some_iff.1 e
   cases ws with
   |nil=>simp at e
   |cons w0 w=>
    cases w0 with
    |none=>
     simp only[]at e
     split at e
     ·rename_i hn
      exact glue none w p.1 (k+1) rfl rfl ⟨true,ht,fun e=>(by cases e),fun _=>⟨fun _=>⟨h,p.2,hh,hp,hn.symm⟩,fun lo hi e=>(by cases e)⟩⟩ e
     ·cases e
    |some q=>
     obtain⟨lo,hi⟩:=q
     simp only[]at e
     split at e
     ·rename_i hn
      refine glue (some (lo,hi)) w p.1 k rfl rfl ⟨true,ht,fun e=>(by cases e),fun _=>⟨fun e=>(by cases e),?_⟩⟩ e
      intro lo' hi' e' j hj hj'
      simp only[Option.some.injEq,Prod.mk.injEq]at e'
      obtain⟨rfl,rfl⟩:=e'
      rw[List.all_eq_true]at hn
      have:=hn j (List.mem_range'_1.2 ⟨hj,by omega⟩)
      simp only[decide_eq_true_eq]at this
      obtain⟨u,hu,hu'⟩:=this
      obtain⟨h',hh',hu⟩:=Option.bind_eq_some_iff.1 hu
      refine⟨h',u,hh',hu,?_⟩
      rw[hh']at hu'
      simpa using hu'
     ·cases e
  |false=>
   simp only[Bool.false_eq_true,if_false]at e
   cases ws with
   |nil=>simp at e
   |cons w0 w=>
    cases w0 with
    |none=>
     simp only[]at e
     split at e
     ·rename_i hn
      exact glue none w (.tup []) (k+1) rfl rfl ⟨false,ht,fun _=>⟨rfl,fun _=>hn⟩,fun e=>(by cases e)⟩ e
     ·cases e
    |some q=>
     exact glue (some q) w (.tup []) k rfl rfl ⟨false,ht,fun _=>⟨rfl,fun e=>(by cases e)⟩,fun e=>(by cases e)⟩ e
end
end Go.Proofs.YtobejhpigbllpaaGreatDoor.Am
namespace Go.Proofs.YtobejhpigbllpaaGreatDoor.Am
def P1(rs:Array Oper)(i:Nat):List Nat:=
 match rs[i]? with
 |some o=>(o.after.toList.filter (Region.binds .any)).map (·.on)
 |none=>[]
def RE(rs:Array Oper):Nat→Nat→Nat→Bool
 |0,_,_=>false
 |n+1,j,i=>(P1 rs i).any (fun e=>Nat.beq e j)||(P1 rs i).any fun e=>RE rs n j e
theorem Jb{rs:Array Oper}{L:Nat→Prop}(hd: ∀i,L i→ ∀e∈P1 rs i,L e): ∀{n j i:Nat},RE rs n j i=true→(∀e∈P1 rs i,L e)→L j
 |0,_,_,h,_=>by simp[RE]at h
 |n+1,j,i,h,hi=>by
  simp only[RE,List.any_eq_true,Bool.or_eq_true,Nat.beq_eq]at h
  rcases h with ⟨e,he,rfl⟩|⟨e,he,h⟩
  ·exact hi _ he
  ·exact Jb hd h (hd e (hi e he))
def looks(ao:AQ):List Nat:=gT ao.g++opT ao.o
def Sr(rs:Array Oper)(l:List AQ)(ws:List (Option (Nat×Nat)))(i j:Nat):Bool:=
 match l[i]?,l[j]? with
 |some x,some y=>
  (match x.d with|some t=>decide (y.d≠some t)|none=>true)&&
  (match y.d with|some t=> !(looks x).contains t||(if j<i then RE rs rs.size j i else RE rs rs.size i j)|none=>true)&&
  (match ws[i]?,ws[j]? with
   |some none,some none=> !decide (j<i)||RE rs rs.size j i
   |some (some (lo,hi)),some none=>(!decide (Fk ws j<lo)||RE rs rs.size j i)&&(!decide (hi≤Fk ws j)||RE rs rs.size i j)
   |_,_=>true)
 |_,_=>true
def okD(T:Hj→Oper→Bool)(nt:Nat)(rs:Array Oper)(l:List AQ)(ws:List (Option (Nat×Nat))):Bool:=
 FN T nt rs l rs.toList&&(List.range rs.size).all fun i=>
  (P1 rs i).all (fun e=>decide (e<i))&&
  (match ws[i]? with|some (some (lo,_))=>decide (lo≤Fk ws rs.size)|_=>true)&&
  (List.range rs.size).all fun j=>i==j||Sr rs l ws i j
theorem UB(f:Fr)(d:Option Nat)(v:AV)(t:Nat):get (put f d v) t=if d=some t then v else get f t:=by
 cases d with
 |none=>simp[put]
 |some u=>simp[put,get]
theorem Ot{T:Hj→Oper→Bool}{nt:Nat}{rs:Array Oper}: ∀{l:List AQ} {os:List Oper},FN T nt rs l os=true→l.length=os.length
 |[],[],_=>rfl
 |[],_::_,h=>by simp[FN]at h
 |_::_,[],h=>by simp[FN]at h
 |_::_,_::_,h=>by
  simp only[FN,Bool.and_eq_true]at h
  simp[Ot h.2]
theorem Th{T:Hj→Oper→Bool}{nt:Nat}{rs:Array Oper}: ∀{l:List AQ} {os:List Oper} {i:Nat} {x:AQ} {o:Oper},FN T nt rs l os=true→l[i]? =some x→os[i]? =some o→Vv T nt rs x o=true
 |[],_,_,_,_,_,h,_=>by simp at h
 |_::_,[],_,_,_,_,_,h=>by simp at h
 |_::_,_::_,0,_,_,h,h1,h2=>by
  simp only[FN,Bool.and_eq_true]at h
  simp only[List.getElem?_cons_zero,Option.some.injEq]at h1 h2
  subst h1;subst h2
  exact h.1
 |_::_,_::_,i+1,_,_,h,h1,h2=>by
  simp only[FN,Bool.and_eq_true]at h
  exact Th h.2 (i:=i) (by simpa using h1) (by simpa using h2)
theorem U6: ∀{ws:List (Option (Nat×Nat))} {i j:Nat},ws[i]? =some none→i<j→Fk ws i<Fk ws j
 |[],_,_,h,_=>by simp at h
 |_,_,0,_,h=>by omega
 |none::ws,0,j+1,_,_=>by simp only[Fk];omega
 |some _::ws,0,j+1,h,_=>by simp at h
 |none::ws,i+1,j+1,h,h'=>by
  have:=U6 (ws:=ws) (i:=i) (j:=j) (by simpa using h) (by omega)
  simp only[Fk];omega
 |some _::ws,i+1,j+1,h,h'=>by
  have:=U6 (ws:=ws) (i:=i) (j:=j) (by simpa using h) (by omega)
  simp only[Fk];omega
theorem MS: ∀{ws:List (Option (Nat×Nat))} {n k:Nat},k<Fk ws n→ ∃j,j<n∧ws[j]? =some none∧Fk ws j=k
 |_,0,_,h=>by simp[Fk]at h
 |[],_+1,_,h=>by simp[Fk]at h
 |none::ws,n+1,0,_=>⟨0,by omega,rfl,rfl⟩
 |none::ws,n+1,k+1,h=>by
  obtain⟨j,h1,h2,h3⟩:=MS (ws:=ws) (n:=n) (k:=k) (by simp only[Fk]at h;omega)
  exact⟨j+1,by omega,by simpa using h2,by simp only[Fk,h3]⟩
 |some _::ws,n+1,k,h=>by
  obtain⟨j,h1,h2,h3⟩:=MS (ws:=ws) (n:=n) (k:=k) (by simpa [Fk]using h)
  exact⟨j+1,by omega,by simpa using h2,by simp only[Fk,h3]⟩
section
variable{T:Hj→Oper→Bool}{P:Program}{tb:CD}{cl:Nat→List AV→Av→JG}{nt:Nat}{rs:Array Oper}{l:List AQ}{ws:List (Option (Nat×Nat))}{hs:List Av}{fr:Nat→Fr}{vl:Nat→AV}
def On(listed:Array Bool)(i:Nat):Prop:=listed.getD i false=true
structure St(rs:Array Oper)(l:List AQ)(ws:List (Option (Nat×Nat)))(hs:List Av)(fr:Nat→Fr)(vl:Nat→AV)(listed:Array Bool)(H:Av)(f:Fr):Prop where
 size:listed.size=rs.size
 down: ∀i,On listed i→ ∀e∈P1 rs i,On listed e
 heap: ∃k,hs[k]? =some H∧ ∀j,j<rs.size→ws[j]? =some none→(On listed j↔Fk ws j<k)
 vals: ∀i ai t,On listed i→l[i]? =some ai→ai.d=some t→get f t=vl i
 rest: ∀t,(∀i ai,On listed i→l[i]? =some ai→ai.d≠some t)→get f t=get (fr 0) t
theorem Sq{listed:Array Bool}{i j:Nat}(hi:i<listed.size):On (listed.setIfInBounds i true) j↔j=i∨On listed j:=by
 unfold On
 by_cases h:i=j
 ·subst h;simp[Array.getD_eq_getD_getElem?,hi]
 ·rw[getD_set_ne false h]
  exact⟨.inr,fun e=>e.resolve_left (Ne.symm h)⟩
theorem XH{i:Nat}{o:Oper}(h:rs[i]? =some o){e:Nat}:e∈P1 rs i↔ ∃x∈o.after,Region.binds .any x=true∧x.on=e:=by
 simp only[P1,h,List.mem_map,List.mem_filter,Array.mem_toList_iff]
 exact⟨fun⟨x,⟨h1,h2⟩,h3⟩=>⟨x,h1,h2,h3⟩,fun⟨x,h1,h2,h3⟩=>⟨x,⟨h1,h2⟩,h3⟩⟩
theorem Sm{listed:Array Bool}(hsz:listed.size=rs.size){i:Nat}:i∈Region.ready .any rs listed↔i<rs.size∧ ¬On listed i∧ ∀e∈P1 rs i,On listed e:=by
 rw[mem_ready]
 constructor
 ·rintro⟨h1,o,ho,h2⟩
  have hi:i<rs.size:=(Array.getElem?_eq_some_iff.1 ho).1
  refine⟨hi,fun h=> ?_,fun e he=> ?_⟩
  ·unfold On at h
   simp[Array.getD_eq_getD_getElem?,show i<listed.size by omega]at h h1
   rw[h1]at h;cases h
  ·obtain⟨x,hx,hb,rfl⟩:=(XH ho).1 he
   exact h2 x hx hb
 ·rintro⟨hi,h1,h2⟩
  obtain⟨o,ho⟩: ∃o,rs[i]? =some o:=⟨rs[i],Array.getElem?_eq_getElem hi⟩
  refine⟨?_,o,ho,fun x hx hb=>h2 _ ((XH ho).2 ⟨x,hx,hb,rfl⟩)⟩
  unfold On at h1
  simp[Array.getD_eq_getD_getElem?,show i<listed.size by omega]at h1 ⊢
  exact h1
theorem sH(h:okD T nt rs l ws=true):l.length=rs.size∧(∀(i:Nat) (x:AQ) (o:Oper),l[i]? =some x→rs[i]? =some o→Vv T nt rs x o=true)∧(∀i,i<rs.size→ ∀e∈P1 rs i,e<i)∧
  (∀(i j:Nat) (x y:AQ) (t:Nat),l[i]? =some x→l[j]? =some y→i≠j→x.d=some t→y.d≠some t)∧
  (∀(i j:Nat) (x y:AQ) (t:Nat),l[i]? =some x→l[j]? =some y→y.d=some t→t∈looks x→(j<i∧RE rs rs.size j i=true)∨(i<j∧RE rs rs.size i j=true)∨i=j)∧
  (∀i j,i<rs.size→j<rs.size→i≠j→ws[i]? =some none→ws[j]? =some none→j<i→RE rs rs.size j i=true)∧
  (∀i j lo hi,i<rs.size→j<rs.size→ws[i]? =some (some (lo,hi))→ws[j]? =some none→(Fk ws j<lo→RE rs rs.size j i=true)∧(hi≤Fk ws j→RE rs rs.size i j=true))∧
  (∀i lo hi,i<rs.size→ws[i]? =some (some (lo,hi))→lo≤Fk ws rs.size):=by
 simp only[okD,Bool.and_eq_true,List.all_eq_true,List.mem_range,decide_eq_true_eq,Bool.or_eq_true,beq_iff_eq]at h
 obtain⟨h1,h2⟩:=h
 have hlen:l.length=rs.size:=by rw[Ot h1];simp
 have lt: ∀{i x},l[i]? =some x→i<rs.size:=fun{i x} e=>by have:=AM e;omega
 have pair: ∀i j,i<rs.size→j<rs.size→i≠j→Sr rs l ws i j=true:=fun i j hi hj hne=>((h2 i hi).2 j hj).resolve_left hne
 refine⟨hlen,fun i x o hx ho=>Th h1 hx (by simpa using ho),fun i hi=>(h2 i hi).1.1,?_,?_,?_,?_,fun i lo hi hil hw=> ?_⟩
 ·intro i j x y t hx hy hne hd
  have:=pair i j (lt hx) (lt hy) hne
  simp only[Sr,hx,hy,hd,Bool.and_eq_true,decide_eq_true_eq]at this
  exact this.1.1
 ·intro i j x y t hx hy hd ht
  by_cases hij:i=j
  ·exact .inr (.inr hij)
  ·have:=pair i j (lt hx) (lt hy) hij
   simp only[Sr,hx,hy,hd,Bool.and_eq_true,Bool.or_eq_true,Bool.not_eq_true']at this
   rcases this.1.2 with h|h
   ·simp[ht]at h
   ·by_cases hlt:j<i
    ·rw[if_pos hlt]at h
     exact .inl ⟨hlt,h⟩
    ·rw[if_neg hlt]at h
     exact .inr (.inl ⟨by omega,h⟩)
 ·intro i j hi hj hne hwi hwj hlt
  have:=pair i j hi hj hne
  obtain⟨x,hx⟩: ∃x,l[i]? =some x:=⟨_,List.getElem?_eq_getElem (by omega)⟩
  obtain⟨y,hy⟩: ∃x,l[j]? =some x:=⟨_,List.getElem?_eq_getElem (by omega)⟩
  simp only[Sr,hx,hy,hwi,hwj,Bool.and_eq_true,Bool.or_eq_true,Bool.not_eq_true',decide_eq_false_iff_not]at this
  exact this.2.resolve_left (by omega)
 ·intro i j lo hi hil hjl hwi hwj
  have hne:i≠j:=by rintro rfl;rw[hwi]at hwj;cases hwj
  have:=pair i j hil hjl hne
  obtain⟨x,hx⟩: ∃x,l[i]? =some x:=⟨_,List.getElem?_eq_getElem (by omega)⟩
  obtain⟨y,hy⟩: ∃x,l[j]? =some x:=⟨_,List.getElem?_eq_getElem (by omega)⟩
  simp only[Sr,hx,hy,hwi,hwj,Bool.and_eq_true,Bool.or_eq_true,Bool.not_eq_true',decide_eq_false_iff_not]at this
  exact⟨fun h=>this.2.1.resolve_left (by omega),fun h=>this.2.2.resolve_left (by omega)⟩
 ·have:=(h2 i hil).1.2
  simpa only[hw,decide_eq_true_eq]using this
theorem V2(hstep: ∀i ao,l[i]? =some ao→fr (i+1)=put (fr i) ao.d (vl i))(h3: ∀(i j:Nat) (x y:AQ) (t:Nat),l[i]? =some x→l[j]? =some y→i≠j→x.d=some t→y.d≠some t):
  ∀m,m≤l.length→(∀i x t,i<m→l[i]? =some x→x.d=some t→get (fr m) t=vl i)∧(∀t,(∀i x,i<m→l[i]? =some x→x.d≠some t)→get (fr m) t=get (fr 0) t)
 |0,_=>⟨fun _ _ _ h=>by omega,fun _ _=>rfl⟩
 |m+1,hm=>by
  obtain⟨q1,q2⟩:=V2 hstep h3 m (by omega)
  obtain⟨x,hx⟩: ∃x,l[m]? =some x:=⟨_,List.getElem?_eq_getElem (by omega)⟩
  rw[hstep m x hx]
  refine⟨fun i y t hi hy hd=> ?_,fun t ht=> ?_⟩
  ·rw[UB]
   by_cases him:i=m
   ·subst him
    rw[hx]at hy
    obtain rfl:=Option.some.inj hy
    rw[if_pos hd]
   ·rw[if_neg (h3 i m y x t hy hx him hd)]
    exact q1 i y t (by omega) hy hd
  ·rw[UB,if_neg (ht m x (by omega) hx)]
   exact q2 t fun i y hi=>ht i y (by omega)
theorem pK(hT: ∀ao o,T ao o=true→CZ P tb ao o)(hcl:E4 P tb fun g args h=>Bs tb cl h g args){Q:Exit→Act→World→Prop}(hok:okD T nt rs l ws=true)
  (hk:Fk ws l.length+1=hs.length) (hstep: ∀i ao,l[i]? =some ao→fr (i+1)=put (fr i) ao.d (vl i)∧ ∃w,ws[i]? =some w∧Stepped tb cl hs (Fk ws i) ao w (fr i) (vl i)) {C₀:Da}
  (k: ∀(D:Da) (a':Act),JH C₀ D→Inv tb D→hs.getLast?=some D.H→Bn D (fr l.length) a' nt→Q .normal a' D.w):
  ∀(fuel:Nat) (listed:Array Bool) (C:Da) (f:Fr) (a:Act),listed.toList.count false≤fuel→St rs l ws hs fr vl listed C.H f→JH C₀ C→Inv tb C→Bn C f a nt→wpAny P .any rs Q fuel listed a C.w:=by
 obtain⟨c1,c2,c3,c4,c5,c6,c7,c8⟩:=sH hok
 have lexf:=V2 (fun i ao h=>(hstep i ao h).1) c4
 have fin: ∀(listed:Array Bool) (C:Da) (f:Fr) (a:Act),Region.ready .any rs listed=[]→St rs l ws hs fr vl listed C.H f→JH C₀ C→Inv tb C→Bn C f a nt→Q .normal a C.w:=by
  intro listed C f a hr S X I F
  have all: ∀n i,i<n→i<rs.size→On listed i:=by
   intro n
   induction n with
   |zero=>intro i h;omega
   |succ n ih=>
    intro i hi hil
    refine Classical.byContradiction fun hno=> ?_
    have:i∈Region.ready .any rs listed:=(Sm S.size).2 ⟨hil,hno,fun e he=>ih e (by have:=c3 i hil e he;omega) (by have:=c3 i hil e he;omega)⟩
    rw[hr]at this
    cases this
  have all': ∀i,i<rs.size→On listed i:=fun i hi=>all (i+1) i (by omega) hi
  obtain⟨q1,q2⟩:=lexf l.length (Nat.le_refl _)
  refine k C a X I ?_ ⟨fun t=> ?_,F.size,F.defers⟩
  ·obtain⟨m,hm,hw⟩:=S.heap
   have hml:=AM hm
   have:m=Fk ws l.length:=by
    refine Classical.byContradiction fun hne=> ?_
    obtain⟨j,hj,hwj,hrj⟩:=MS (ws:=ws) (n:=l.length) (k:=m) (by omega)
    have:=(hw j (by omega) hwj).1 (all' j (by omega))
    omega
   rw[List.getLast?_eq_getElem?,←hm]
   congr 1
   omega
  ·have:get (fr l.length) t=get f t:=by
    by_cases hex: ∃(i:Nat) (x:AQ),l[i]? =some x∧x.d=some t
    ·obtain⟨i,x,hx,hd⟩:=hex
     rw[q1 i x t (AM hx) hx hd,S.vals i x t (all' i (by have:=AM hx;omega)) hx hd]
    ·rw[q2 t fun i x _ hx hd=>hex ⟨i,x,hx,hd⟩,S.rest t fun i x _ hx hd=>hex ⟨i,x,hx,hd⟩]
   rw[this]
   exact F.rep t
 intro fuel
 induction fuel with
 |zero=>
  intro listed C f a hc S X I F
  have hr:Region.ready .any rs listed=[]:=by
   rw[List.eq_nil_iff_forall_not_mem]
   intro i hi
   obtain⟨hil,hno,_⟩:=(Sm S.size).1 hi
   have h0:listed.toList.count false=0:=by omega
   rw[List.count_eq_zero]at h0
   apply hno
   have hil':i<listed.size:=by rw[S.size];exact hil
   unfold On
   rw[Array.getD_eq_getD_getElem?,Array.getElem?_eq_getElem hil']
   simp only[Option.getD_some]
   cases hv:listed[i]with
   |true=>rfl
   |false=>exact absurd (by rw[←hv];simp) h0
  exact⟨hr,fin listed C f a hr S X I F⟩
 |succ fuel ih=>
  intro listed C f a hc S X I F
  refine⟨fun hr=>fin listed C f a hr S X I F,fun i hi=> ?_⟩
  obtain⟨hil,hno,hall⟩:=(Sm S.size).1 hi
  have hil':i<listed.size:=by rw[S.size];exact hil
  obtain⟨o,ho⟩: ∃o,rs[i]? =some o:=⟨rs[i],Array.getElem?_eq_getElem hil⟩
  obtain⟨ao,hao⟩: ∃x,l[i]? =some x:=⟨_,List.getElem?_eq_getElem (by omega)⟩
  obtain⟨g1,g2,g3,g4⟩:=Ti (c2 i ao o hao ho)
  obtain⟨hfr,w,hwi,t,hwt,hfalse,htrue⟩:=hstep i ao hao
  obtain⟨q1,q2⟩:=lexf i (by omega)
  have alike:Alike tb f (fr i) (looks ao):=by
   intro u hu
   by_cases hex: ∃(j:Nat) (x:AQ),l[j]? =some x∧x.d=some u
   ·obtain⟨j,x,hx,hd⟩:=hex
    rcases c5 i j ao x u hao hx hd hu with ⟨hji,hanc⟩|hlate
    ·have hon:On listed j:=Jb S.down hanc hall
     rw[q1 j x u hji hx hd,S.vals j x u hon hx hd]
    ·have hij:i≤j:=by rcases hlate with h|h<;>omega
     have hoff: ¬On listed j:=fun h=>by
      rcases hlate with ⟨_,hanc⟩|rfl
      ·exact hno (Jb S.down hanc (S.down j h))
      ·exact hno h
     have one: ∀(k:Nat) (y:AQ),l[k]? =some y→y.d=some u→k=j:=fun k y hy hyd=>
      Classical.byContradiction fun hne=>c4 k j y x u hy hx hne hyd hd
     rw[q2 u fun k y hk hy hyd=>by have:=one k y hy hyd;omega,S.rest u fun k y hk hy hyd=>hoff (one k y hy hyd▸hk)]
   ·rw[q2 u fun j x _ hx hd=>hex ⟨j,x,hx,hd⟩,S.rest u fun j x _ hx hd=>hex ⟨j,x,hx,hd⟩]
  have hwt':wanted f ao.g=some t:=by rw[YP alike.l];exact hwt
  have hwr:=UK F g3 hwt'
  obtain⟨m,hm,hmw⟩:=S.heap
  have hcount:(listed.setIfInBounds i true).toList.count false≤fuel:=by
   have hv:listed[i]=false:=by
    cases hv:listed[i]with
    |false=>rfl
    |true=>exact absurd (by unfold On;rw[Array.getD_eq_getD_getElem?,Array.getElem?_eq_getElem hil',hv];rfl) hno
   rw[Array.toList_setIfInBounds,List.count_set (by simpa using hil')]
   have hv':listed.toList[i]'(by simpa using hil')=false:=by simpa using hv
   have hpos:0<listed.toList.count false:=List.count_pos_iff.2 (by rw[←hv];simp)
   rw[hv']
   simp only[beq_self_eq_true,if_true,beq_iff_eq,Bool.true_eq_false,if_false]
   omega
  have next: ∀(H:Av),(w=none→hs[m+1]? =some H)→(w≠none→H=C.H)→St rs l ws hs fr vl (listed.setIfInBounds i true) H (put f ao.d (vl i)):=by
   intro H hn hq
   refine⟨by simp[S.size],?_,?_,?_,?_⟩
   ·intro j hj e he
    rw[Sq hil']at hj ⊢
    rcases hj with rfl|hj
    ·exact .inr (hall e he)
    ·exact .inr (S.down j hj e he)
   ·cases hw:w with
    |none=>
     subst hw
     refine⟨m+1,hn rfl,fun j hj hwj=> ?_⟩
     have hmi:Fk ws i=m:=by
      have h1: ¬Fk ws i<m:=fun h=>hno ((hmw i hil hwi).2 h)
      have h2: ¬m<Fk ws i:=fun h=>by
       obtain⟨j,hj,hwj,hrj⟩:=MS h
       have:=Jb S.down (c6 i j hil (by omega) (by omega) hwi hwj hj) hall
       have:=(hmw j (by omega) hwj).1 this
       omega
      omega
     rw[Sq hil',hmw j hj hwj]
     constructor
     ·rintro(rfl|h)
      ·omega
      ·omega
     ·intro h
      by_cases hji:j=i
      ·exact .inl hji
      ·right
       rcases Nat.lt_or_ge j i with h'|h'
       ·have:=U6 hwj h';omega
       ·have:=U6 hwi (show i<j by omega);omega
    |some p=>
     refine⟨m,by rw[hq (by rw[hw];simp)];exact hm,fun j hj hwj=> ?_⟩
     have hji:j≠i:=by rintro rfl;rw[hwi,hw]at hwj;cases hwj
     rw[Sq hil',←hmw j hj hwj]
     exact⟨fun h=>h.resolve_left hji, .inr⟩
   ·intro j x u hj hx hd
    rw[UB]
    rw[Sq hil']at hj
    by_cases hji:j=i
    ·subst hji
     rw[hao]at hx
     obtain rfl:=Option.some.inj hx
     rw[if_pos hd]
    ·rw[if_neg (c4 j i x ao u hx hao hji hd)]
     exact S.vals j x u (hj.resolve_left hji) hx hd
   ·intro u hu
    rw[UB,if_neg (hu i ao ((Sq hil').2 (.inl rfl)) hao)]
    exact S.rest u fun j x hj hx=>hu j x ((Sq hil').2 (.inr hj)) hx
  have hrank:w=none→Fk ws i=m:=by
   rintro rfl
   have h1: ¬Fk ws i<m:=fun h=>hno ((hmw i hil hwi).2 h)
   have h2: ¬m<Fk ws i:=fun h=>by
    obtain⟨j,hj,hwj,hrj⟩:=MS h
    have:=Jb S.down (c6 i j hil (by omega) (by omega) hwi hwj hj) hall
    have:=(hmw j (by omega) hwj).1 this
    omega
   omega
  have hrange: ∀lo hi,w=some (lo,hi)→lo≤m∧m≤hi:=by
   rintro lo hi rfl
   have hml:=AM hm
   constructor
   ·refine Nat.le_of_not_lt fun h=> ?_
    obtain⟨j,hj,hwj,hrj⟩: ∃j,j<l.length∧ws[j]? =some none∧Fk ws j=m:=by
     by_cases hlt:m<Fk ws l.length
     ·exact MS hlt
     ·have:=c8 i lo hi hil hwi
      rw[←c1]at this
      omega
    have:=Jb S.down ((c7 i j lo hi hil (by omega) hwi hwj).1 (by omega)) hall
    have:=(hmw j (by omega) hwj).1 this
    omega
   ·refine Nat.le_of_not_lt fun h=> ?_
    obtain⟨j,hj,hwj,hrj⟩: ∃j,j<l.length∧ws[j]? =some none∧Fk ws j=hi:=MS (by omega)
    have hon:=(hmw j (by omega) hwj).2 (by omega)
    exact hno (Jb S.down ((c7 i j lo hi hil (by omega) hwi hwj).2 (by omega)) (S.down j hon))
  unfold wpOp
  simp only[ho,hwr]
  rw[←g1]
  cases t with
  |false=>
   simp only[Bool.false_eq_true,if_false]
   obtain⟨hv,hsame⟩:=hfalse rfl
   refine ih _ C (put f ao.d (.tup [])) _ hcount ?_ X I (F.put (H5 C) (fun t ht=>g2 t (g1▸ht)) (x:= .tup []) ⟨[],rfl,rfl⟩)
   rw[←hv]
   refine next C.H (fun hw=> ?_) fun _=>rfl
   rw[←hrank hw,←hsame hw,hrank hw]
   exact hm
  |true=>
   simp only[if_true]
   obtain⟨hW,hR⟩:=htrue rfl
   have land: ∀(u:Option Av),Bo tb cl (eval tb f) C.H ao.o=some (vl i,u)→(w=none→hs[m+1]? =some (u.getD C.H))→(w≠none→u.getD C.H=C.H)→
     o.wp P a C.w (wpAny P .any rs Q fuel (listed.setIfInBounds i true)) Q:=by
    intro u hu h1 h2
    refine Tb (hT _ _ g4 hcl I F hu) fun v D X' ID hH hr=> ?_
    rw[←g1]
    refine ih _ D (put f ao.d (vl i)) _ hcount ?_ (X.trans X') ID (F.put X' (fun t ht=>g2 t (g1▸ht)) hr)
    rw[hH]
    exact next _ h1 h2
   left
   cases hw:w with
   |none=>
    obtain⟨h,u,e1,e2,e3⟩:=hW hw
    rw[hrank hw]at e1 e3
    rw[hm]at e1
    obtain rfl:=Option.some.inj e1
    exact land u (by rw[YF alike.r];exact e2) (fun _=>e3) fun hne=>absurd hw hne
   |some p=>
    obtain⟨lo,hi⟩:=p
    obtain⟨r1,r2⟩:=hrange lo hi hw
    obtain⟨h,u,e1,e2,e3⟩:=hR lo hi hw m r1 r2
    rw[hm]at e1
    obtain rfl:=Option.some.inj e1
    exact land u (by rw[YF alike.r];exact e2) (fun hn=>absurd (hn.symm.trans hw) (by simp)) fun _=>e3
end
end Go.Proofs.YtobejhpigbllpaaGreatDoor.Am
namespace Go.Proofs.YtobejhpigbllpaaGreatDoor.Am
def Zq(l:List AQ):List (Option (Nat×Nat)):=l.map fun _=>some (0,0)
def Qe(T:Hj→Oper→Bool)(nt:Nat):AC→Code→Bool
 | .skip, .skip=>true
 | .reg l, .region _ rs false=>FN T nt rs l rs.toList
 | .regq l, .region _ rs true=>okD T nt rs l (Zq l)
 | .regd l ws, .region _ rs true=>okD T nt rs l ws
 | .seq x y, .seq c d=>Qe T nt x c&&Qe T nt y d
 | .cond x a b, .cond y c d=>AZ x y&&Qe T nt a c&&Qe T nt b d
 | .blk id x, .block id' c=>id==id'&&Qe T nt x c
 | .loop _ x, .loop c=>Qe T nt x c
 | .exit id, .exit id'=>id==id'
 | .ret, .ret=>true
 | .keep _ x,c=>Qe T nt x c
 | .scope x, .scope c=>Qe T nt x c
 | .skip, .label _=>true
 | .stop,_=>true
 |_,_=>false
def exOf:Ex→Exit
 | .normal=> .normal
 | .exit id=> .exit id
 | .ret=> .ret
section
variable{T:Hj→Oper→Bool}{P:Program}{tb:CD}{cl:Nat→List AV→Av→JG}{nt:Nat}
theorem Zu{h:Av}: ∀(l:List AQ) {f f':Fr},Hu tb cl h l f=some f'→IC tb cl [h] l (Zq l) 0 f=some f':=by
 intro l
 induction l with
 |nil=>intro f f' e;simpa [Hu,IC,Zq]using e
 |cons o l ih=>
  intro f f' e
  simp only[Hu]at e
  obtain⟨w,hw,e⟩:=Option.bind_eq_some_iff.1 e
  simp only[Zq,List.map_cons,IC,hw,Option.bind_some]
  cases w with
  |true=>
   simp only[if_true]at e ⊢
   obtain⟨p,hp,e⟩:=Option.bind_eq_some_iff.1 e
   split at e
   ·rename_i hsame
    simp only[List.getElem?_cons_zero,Option.bind_some,hp]
    rw[if_pos]
    ·exact ih e
    ·rw[List.all_eq_true]
     intro j hj
     rw[List.mem_range'_1]at hj
     have:j=0:=by omega
     subst this
     simp only[decide_eq_true_eq,List.getElem?_cons_zero,Option.bind_some,Option.getD_some]
     exact⟨p.2,by rw[hp],by rw[hsame]⟩
   ·cases e
  |false=>
   simp only[Bool.false_eq_true,if_false]at e ⊢
   exact ih e
theorem Zp{rs:Array Oper}{l:List AQ}{ws:List (Option (Nat×Nat))}{hs:List Av}{fr:Nat→Fr}{vl:Nat→AV}{H:Av}(hh:hs[0]? =some H):
  St rs l ws hs fr vl (Array.replicate rs.size false) H (fr 0):=by
 have hoff: ∀i,¬On (Array.replicate rs.size false) i:=by
  intro i h
  unfold On at h
  rw[Array.getD_eq_getD_getElem?,Array.getElem?_replicate]at h
  split at h<;>simp at h
 exact⟨by simp,fun i h=>absurd h (hoff i),⟨0,hh,fun j _ _=>⟨fun h=>absurd h (hoff j),fun h=>absurd h (Nat.not_lt_zero _)⟩⟩,fun i _ _ h=>absurd h (hoff i),fun _ _=>rfl⟩
theorem Vn(hm:P.follows .mixedOrders=true)(hT: ∀ao o,T ao o=true→CZ P tb ao o)(hcl:E4 P tb fun g args h=>Bs tb cl h g args){Q:Exit→Act→World→Prop}{l:List AQ}
  {ws:List (Option (Nat×Nat))} {rs:Array Oper} {id:Nat} (h:okD T nt rs l ws=true) {C:Da} {f:Fr} {a:Act} (I:Inv tb C) (F:Bn C f a nt) {f':Fr} {hs:List Av} (hh:hs[0]? =some C.H)
  (e:IC tb cl hs l ws 0 f=some f') (k: ∀(D:Da) (a':Act),JH C D→Inv tb D→hs.getLast?=some D.H→Bn D f' a' nt→Q .normal a' D.w):(Code.region id rs true).wp P Q a C.w:=by
 obtain⟨fr,vl,h0,h1,h2,h3⟩:=nT l ws 0 f f' e
 obtain⟨X,ID⟩:=drawn I (w:={C.w with drawn:=C.w.drawn+1}) ⟨rfl,rfl,rfl⟩ rfl
 subst h0
 subst h1
 refine wp_region_any hm ?_
 refine pK (vl:=vl) (C₀:=C) hT hcl h (by omega) (fun i ao hi=> ?_) k rs.size _ ⟨C.φ,C.H,{C.w with drawn:=C.w.drawn+1}⟩ (fr 0) a ?_ (Zp hh) X ID (F.ext X)
 ·have:=h3 i ao hi
  simpa only[Nat.zero_add]using this
 ·exact Nat.le_trans List.count_le_length (by simp)
theorem oE(AX:List Nat)(f:Fr)(t:Nat):get (keepL AX f) t=get f t∨get (keepL AX f) t= .junk:=by
 induction AX with
 |nil=>exact .inr rfl
 |cons u AX ih=>
  simp only[keepL,List.map_cons,get]
  by_cases h:u=t
  ·subst h;left;rw[if_pos rfl]
  ·rw[if_neg h];exact ih
theorem Bn.keep{C:Da}{f:Fr}{a:Act}(F:Bn C f a nt)(AX:List Nat):Bn C (keepL AX f) a nt:=by
 refine⟨fun t=> ?_,F.size,F.defers⟩
 rcases oE AX f t with h|h
 ·rw[h];exact F.rep t
 ·rw[h];trivial
theorem memH: ∀(l:Av) (o:B5),o∈l→DI o≤Cw l:=by
 intro l
 induction l with
 |nil=>intro o h;cases h
 |cons x l ih=>
  intro o h
  simp only[Cw]
  rcases List.mem_cons.1 h with e|h
  ·subst e;omega
  ·have:=ih o h;omega
structure Next(tb:CD)(C:Da)(nt:Nat)(f:Fr)(h:Av)(D:Da)(a:Act):Prop where
 ext:JH C D
 inv:Inv tb D
 heap:D.H=h
 fr:Bn D f a nt
theorem jM(hm:P.follows .mixedOrders=true)(hT: ∀ao o,T ao o=true→CZ P tb ao o)(hcl:E4 P tb fun g args h=>Bs tb cl h g args)(hg: ∀g cs,tb.gl g=some cs→Bc cs=0):
  ∀(ac:AC) (c:Code),Qe T nt ac c=true→ ∀{C:Da} {f:Fr} {a:Act} {e:Ex} {f':Fr} {h':Av},AS tb cl ac f C.H=some (e,f',h')→Inv tb C→Bn C f a nt→
   ∀{Q:Exit→Act→World→Prop},(∀D a',Next tb C nt f' h' D a'→Q (exOf e) a' D.w)→c.wp P Q a C.w:=by
 intro ac
 induction ac with
 |skip=>
  intro c hok C f a e f' h' he I F Q k
  simp only[AS,Option.some.injEq,Prod.mk.injEq]at he
  obtain⟨rfl,rfl,rfl⟩:=he
  cases c<;>simp only[Qe,Bool.false_eq_true]at hok
  ·exact wp_skip (k C a ⟨H5 C,I,rfl,F⟩)
  ·exact wp_label (k C a ⟨H5 C,I,rfl,F⟩)
 |ret=>
  intro c hok C f a e f' h' he I F Q k
  cases c<;>simp only[Qe,Bool.false_eq_true]at hok
  simp only[AS,Option.some.injEq,Prod.mk.injEq]at he
  obtain⟨rfl,rfl,rfl⟩:=he
  exact wp_ret (k C a ⟨H5 C,I,rfl,F⟩)
 |exit id=>
  intro c hok C f a e f' h' he I F Q k
  cases c<;>simp only[Qe,Bool.false_eq_true,beq_iff_eq]at hok
  subst hok
  simp only[AS,Option.some.injEq,Prod.mk.injEq]at he
  obtain⟨rfl,rfl,rfl⟩:=he
  exact wp_exit (k C a ⟨H5 C,I,rfl,F⟩)
 |reg l=>
  intro c hok C f a e f' h' he I F Q k
  cases c with
  |region id rs b=>
   cases b<;>simp only[Qe,Bool.false_eq_true]at hok
   simp only[AS]at he
   obtain⟨p,hp,he⟩:=Option.map_eq_some_iff.1 he
   obtain⟨p1,p2⟩:=p
   simp only[Prod.mk.injEq]at he
   obtain⟨rfl,rfl,rfl⟩:=he
   exact nF hT hcl hok I F hp fun D a' X ID hH FD=>k D a' ⟨X,ID,hH,FD⟩
  |_=>simp[Qe]at hok
 |regq l=>
  intro c hok C f a e f' h' he I F Q k
  cases c with
  |region id rs b=>
   cases b<;>simp only[Qe,Bool.false_eq_true]at hok
   simp only[AS]at he
   obtain⟨p,hp,he⟩:=Option.map_eq_some_iff.1 he
   simp only[Prod.mk.injEq]at he
   obtain⟨rfl,rfl,rfl⟩:=he
   refine Vn hm hT hcl hok I F rfl (Zu l hp) fun D a' X ID hH FD=>k D a' ⟨X,ID,?_,FD⟩
   simpa using hH.symm
  |_=>simp[Qe]at hok
 |regd l ws=>
  intro c hok C f a e f' h' he I F Q k
  cases c with
  |region id rs b=>
   cases b<;>simp only[Qe,Bool.false_eq_true]at hok
   simp only[AS]at he
   obtain⟨hs,_,he⟩:=Option.bind_eq_some_iff.1 he
   obtain⟨f1,hd,he⟩:=Option.bind_eq_some_iff.1 he
   obtain⟨h1,hl,he⟩:=Option.map_eq_some_iff.1 he
   simp only[Prod.mk.injEq]at he
   obtain⟨rfl,rfl,rfl⟩:=he
   refine Vn hm hT hcl hok I F rfl hd fun D a' X ID hH FD=>k D a' ⟨X,ID,?_,FD⟩
   rw[hl]at hH
   exact(Option.some.inj hH).symm
  |_=>simp[Qe]at hok
 |seq x y ihx ihy=>
  intro c hok C f a e f' h' he I F Q k
  cases c with
  |seq c d=>
   simp only[Qe,Bool.and_eq_true]at hok
   simp only[AS]at he
   obtain⟨p,hp,he⟩:=Option.bind_eq_some_iff.1 he
   obtain⟨e1,f1,h1⟩:=p
   refine wp_seq (ihx c hok.1 hp I F fun D a' N=> ?_)
   cases e1 with
   |normal=>
    obtain⟨X,ID,hH,FD⟩:=N
    exact ihy d hok.2 (by rw[hH];exact he) ID FD fun D' a'' N'=>k D' a'' ⟨X.trans N'.ext,N'.inv,N'.heap,N'.fr⟩
   |exit id=>
    simp only[Option.some.injEq,Prod.mk.injEq]at he
    obtain⟨rfl,rfl,rfl⟩:=he
    exact k D a' N
   |ret=>
    simp only[Option.some.injEq,Prod.mk.injEq]at he
    obtain⟨rfl,rfl,rfl⟩:=he
    exact k D a' N
  |_=>simp[Qe]at hok
 |cond x y z ihy ihz=>
  intro c hok C f a e f' h' he I F Q k
  cases c with
  |cond v c d=>
   simp only[Qe,Bool.and_eq_true]at hok
   have r:=AH I F hok.1.1
   simp only[AS]at he
   split at he
   ·rename_i t ht
    rw[ht]at r
    cases t with
    |true=>exact wp_cond_true r (ihy c hok.1.2 (by simpa using he) I F k)
    |false=>exact wp_cond_false r (ihz d hok.2 (by simpa using he) I F k)
   ·cases he
  |_=>simp[Qe]at hok
 |blk id x ih=>
  intro c hok C f a e f' h' he I F Q k
  cases c with
  |block id' c=>
   simp only[Qe,Bool.and_eq_true,beq_iff_eq]at hok
   obtain⟨rfl,hok⟩:=hok
   simp only[AS]at he
   obtain⟨p,hp,he⟩:=Option.map_eq_some_iff.1 he
   obtain⟨e1,f1,h1⟩:=p
   refine wp_block (ih c hok hp I F fun D a' N=> ?_)
   cases e1 with
   |normal=>
    simp only[Prod.mk.injEq]at he
    obtain⟨rfl,rfl,rfl⟩:=he
    exact k D a' N
   |ret=>
    simp only[Prod.mk.injEq]at he
    obtain⟨rfl,rfl,rfl⟩:=he
    exact k D a' N
   |exit id'=>
    simp only at he
    simp only[exOf,Exit.inBlock]
    by_cases hid:id'=id
    ·rw[if_pos hid]at he ⊢
     simp only[Prod.mk.injEq]at he
     obtain⟨rfl,rfl,rfl⟩:=he
     exact k D a' N
    ·rw[if_neg hid]at he ⊢
     simp only[Prod.mk.injEq]at he
     obtain⟨rfl,rfl,rfl⟩:=he
     exact k D a' N
  |_=>simp[Qe]at hok
 |scope x ih=>
  intro c hok C f a e f' h' he I F Q k
  cases c with
  |scope c=>
   simp only[Qe]at hok
   refine wp_scope_straight (ih c hok he I F fun D a' N=> ?_)
   have:=k D a' N
   cases e<;>exact this
  |_=>simp[Qe]at hok
 |stop=>
  intro c hok C f a e f' h' he I F Q k
  simp[AS]at he
 |keep AX x ih=>
  intro c hok C f a e f' h' he I F Q k
  simp only[Qe]at hok
  simp only[AS]at he
  obtain⟨p,hp,he⟩:=Option.map_eq_some_iff.1 he
  obtain⟨e1,f1,h1⟩:=p
  refine ih c hok hp I F fun D a' N=> ?_
  cases e1 with
  |normal=>
   simp only[Prod.mk.injEq]at he
   obtain⟨rfl,rfl,rfl⟩:=he
   exact k D a' ⟨N.ext,N.inv,N.heap,N.fr.keep AX⟩
  |exit id=>
   simp only[Prod.mk.injEq]at he
   obtain⟨rfl,rfl,rfl⟩:=he
   exact k D a' N
  |ret=>
   simp only[Prod.mk.injEq]at he
   obtain⟨rfl,rfl,rfl⟩:=he
   exact k D a' N
 |loop AX x ih=>
  intro c hok C f a e f' h' he I F Q k
  cases c with
  |loop c=>
   simp only[Qe]at hok
   simp only[AS,lp]at he
   split at he
   ·rename_i hex
    have key: ∀(n:Nat) {D:Da} {f:Fr} {a:Act},TV (Ka AX (AS tb cl x)) n f D.H=some (e,f',h')→JH C D→Inv tb D→Bn D f a nt→Code.rounds P c Q n a D.w:=by
     intro n
     induction n with
     |zero=>intro D f a h;simp[TV]at h
     |succ n ihn=>
      intro D f a h X ID FD
      simp only[TV]at h
      rw[rounds_succ]
      have rnd: ∀{e1 f1 h1},Ka AX (AS tb cl x) f D.H=some (e1,f1,h1)→ ∃f2 h2,AS tb cl x (keepL AX f) D.H=some (e1,f2,h2)∧
        (e1= .normal→(f1,h1)=(keepL AX f2,h2))∧(e1≠ .normal→f1=f2∧h1=h2):=by
       intro e1 f1 h1 hr
       simp only[Ka]at hr
       obtain⟨⟨e2,f2,h2⟩,hp,hr⟩:=Option.map_eq_some_iff.1 hr
       cases e2<;>simp only[Prod.mk.injEq]at hr
       ·obtain⟨he1,hq⟩:=hr
        subst he1
        exact⟨f2,h2,hp,fun _=>by rw[hq.1,hq.2],fun h=>absurd rfl h⟩
       all_goals obtain⟨rfl,rfl,rfl⟩:=hr
       ·exact⟨_,_,hp,fun h=>(by cases h),fun _=>⟨rfl,rfl⟩⟩
       ·exact⟨_,_,hp,fun h=>(by cases h),fun _=>⟨rfl,rfl⟩⟩
      cases hr:Ka AX (AS tb cl x) f D.H with
      |none=>rw[hr]at h;simp at h
      |some p=>
       obtain⟨e1,f1,h1⟩:=p
       rw[hr]at h
       obtain⟨f2,h2,hx,hn,ho⟩:=rnd hr
       refine ih c hok hx ID (FD.keep AX) fun D' a' N=> ?_
       by_cases hnorm:e1= .normal
       ·subst hnorm
        have hs:=hn rfl
        simp only[]at h
        simp only[exOf,Exit.then]
        obtain⟨X',ID',hH',FD'⟩:=N
        simp only[Prod.mk.injEq]at hs
        obtain⟨rfl,rfl⟩:=hs
        exact ihn (D:=D') (f:=keepL AX f2) (by rw[hH'];exact h) (X.trans X') ID' (FD'.keep AX)
       ·obtain⟨rfl,rfl⟩:=ho hnorm
        have h':some (e1,f1,h1)=some (e,f',h'):=by
         cases e1 with
         |normal=>exact absurd rfl hnorm
         |exit id=>simpa using h
         |ret=>simpa using h
        simp only[Option.some.injEq,Prod.mk.injEq]at h'
        obtain⟨rfl,rfl,rfl⟩:=h'
        have:=k D' a' ⟨X.trans N.ext,N.inv,N.heap,N.fr⟩
        cases e1 with
        |normal=>exact absurd rfl hnorm
        |exit id=>exact this
        |ret=>exact this
    exact wp_loop_rounds _ (key _ he (H5 C) I F)
   ·cases he
  |_=>simp[Qe]at hok
end
end Go.Proofs.YtobejhpigbllpaaGreatDoor.Am
namespace Go.Proofs.YtobejhpigbllpaaGreatDoor.Am
def cG(P:Program):JZ→ResultVar→Bool
 | .tmp t, .tmp u=>t==u
 | .cell ag n a, .cell b t=>a==b&&ag==Eh P t&&n==P.cellsOf t&&(P.underlying t).isSome
 |_,_=>false
def Oq(P:Program):List JZ→List ResultVar→Bool
 |[],[]=>true
 |x::r,y::q=>cG P x y&&Oq P r q
 |_,_=>false
def B0(T:Hj→Oper→Bool)(P:Program)(fn:Dx)(g:Nat):Bool:=
 match P.funcs[g]? with
 |some F=>(match F.body with
  |some c=>Qe T fn.nt fn.body c
  |none=>false)&& !(F.name== "runtime.NumGoroutine")&&fn.nt==F.ntmps&&decide (fn.np≤fn.nt)&&Oq P fn.res F.results.toList
 |none=>false
section
variable{T:Hj→Oper→Bool}{P:Program}{tb:CD}{cl:Nat→List AV→Av→JG}{nt:Nat}
theorem Vh{C:Da}(I:Inv tb C){t:TypeId}(hu:(P.underlying t).isSome=true){x:AV}{y:Value}(hr:Fj C x y){v:AV}(h:load C.H (Eh P t) (P.cellsOf t) x=some v):
  ∃(p:Addr) (z:Value),y= .pointer (some p)∧(loadVar t p).run P C.w= .ok z C.w∧Fj C v z:=by
 simp only[load]at h
 cases hp:place C.H x with
 |none=>rw[hp]at h;simp at h
 |some q=>
  obtain⟨cs,off⟩:=q
  rw[hp]at h
  simp only[Option.bind_some]at h
  split at h
  ·rename_i hle
   obtain⟨b,base,vs,e,hh,hl,hs⟩:=XY I hr hp
   have hsub:=hh.sub off (P.cellsOf t)
   have hrl:AT C (sub cs off (P.cellsOf t)) ((vs.drop off).take (P.cellsOf t)):=hl.drop.take
   have hlen:((vs.drop off).take (P.cellsOf t)).length=P.cellsOf t:=by
    rw[hrl.length];simp only[sub,List.length_take,List.length_drop];omega
   obtain⟨q1,q2⟩:=SU h (N9 hs off _) hrl
   have hinfo:(P.info? t).isSome=true:=by
    obtain⟨d,hd⟩:=Option.isSome_iff_exists.1 hu
    exact info_of_underlying hd
   have hlc:=G9 (P:=P) hsub
   rw[hlen]at hlc
   cases hag:Eh P t with
   |true=>
    refine⟨_, .agg ((vs.drop off).take (P.cellsOf t)).toArray,e,?_,q1 hag⟩
    simp only[loadVar,Sem.run_bind,Sem.run_pure,Result.andThen_ok,Eu t C.w hu,hag,if_true,B6 hinfo,hlc]
   |false=>
    obtain⟨z,hz,rz⟩:=q2 hag
    have hc:C.w.cell? ⟨b,base+off,none⟩=some z:=by
     have:=hsub 0 z (by rw[hz];rfl)
     simpa using this
    refine⟨_,z,e,?_,rz⟩
    simp only[loadVar,Sem.run_bind,Result.andThen_ok,Eu t C.w hu,hag,Bool.false_eq_true,if_false,run_load,hc]
  ·cases h
theorem bX{C:Da}(I:Inv tb C){f:Fr}{a:Act}(F:Bn C f a nt): ∀(l:List JZ) (rs:List ResultVar),Oq P l rs=true→ ∀{vs:List AV},results f C.H l=some vs→
  ∃xs:List Value,(rs.mapM (m:=Sem) fun
   | .tmp t=>pure (a.tmps.getD t undef)
   | .cell b t=>do loadVar t (←asAddr (a.tmps.getD b undef))).run P C.w= .ok xs C.w∧AT C vs xs:=by
 intro l
 induction l with
 |nil=>
  intro rs h vs e
  cases rs with
  |cons r rs=>simp[Oq]at h
  |nil=>
   simp only[results,Option.some.injEq]at e
   subst e
   exact⟨[],by simp,rfl⟩
 |cons x l ih=>
  intro rs h vs e
  cases rs with
  |nil=>simp[Oq]at h
  |cons r rs=>
   simp only[Oq,Bool.and_eq_true]at h
   obtain⟨h1,h2⟩:=h
   cases x with
   |tmp t=>
    cases r with
    |cell b t=>simp[cG]at h1
    |tmp u=>
     simp only[cG,beq_iff_eq]at h1
     subst h1
     simp only[results]at e
     obtain⟨vs',hv,rfl⟩:=Option.map_eq_some_iff.1 e
     obtain⟨xs,q1,q2⟩:=ih rs h2 hv
     refine⟨a.tmps.getD t undef::xs,?_,⟨_,_,rfl,F.rep t,q2⟩⟩
     simp only[List.mapM_cons,Sem.run_bind,Sem.run_pure,Result.andThen_ok,q1]
   |cell ag n t=>
    cases r with
    |tmp u=>simp[cG]at h1
    |cell b ty=>
     simp only[cG,Bool.and_eq_true,beq_iff_eq]at h1
     obtain⟨⟨⟨rfl,rfl⟩,rfl⟩,hu⟩:=h1
     simp only[results]at e
     obtain⟨v,hv,e⟩:=Option.bind_eq_some_iff.1 e
     obtain⟨vs',hv',rfl⟩:=Option.map_eq_some_iff.1 e
     obtain⟨xs,q1,q2⟩:=ih rs h2 hv'
     obtain⟨p,z,hp,hz,rz⟩:=Vh I hu (F.rep t) hv
     refine⟨z::xs,?_,⟨_,_,rfl,rz,q2⟩⟩
     have ha:(asAddr (a.tmps.getD t undef)).run P C.w= .ok p C.w:=by rw[hp];rfl
     simp only[List.mapM_cons,Sem.run_bind,Sem.run_pure,Result.andThen_ok,ha,hz,q1]
def cC:List Value→Value
 |[x]=>x
 |xs=> .tuple xs.toArray
theorem MU{C:Da}: ∀{vs:List AV} {xs:List Value},AT C vs xs→Fj C (FL vs) (cC xs)
 |[],xs,h=>by rw[show xs=[]from h];exact⟨[],rfl,rfl⟩
 |[v],xs,⟨x,q,e,h1,h2⟩=>by rw[e,show q=[]from h2];exact h1
 |v::u::vs,xs,⟨x,q,e,h1,⟨y,q',e',h2,h3⟩⟩=>by
  rw[e,e']
  exact⟨x::y::q',rfl,x,_,rfl,h1,y,_,rfl,h2,h3⟩
theorem bP{fn:Func}{C:Da}(I:Inv tb C){f:Fr}{a:Act}(F:Bn C f a nt){l:List JZ}(h:Oq P l fn.results.toList=true){vs:List AV}(e:results f C.H l=some vs):
  ∃xs,(Go.results fn a.tmps).run P C.w= .ok (cC xs) C.w∧AT C vs xs:=by
 obtain⟨xs,h1,h2⟩:=bX I F l _ h e
 refine⟨xs,?_,h2⟩
 have hrun:(Go.results fn a.tmps).run P C.w= .ok (if h:xs.toArray.size=1 then xs.toArray[0]else .tuple xs.toArray) C.w:=by
  unfold Go.results
  rw[Array.mapM_eq_mapM_toList,Sem.run_bind,Sem.run_map]
  exact congrArg (fun r=>(Result.andThen (Result.andThen r fun a w'=> .ok a.toArray w') fun a w'=>Sem.run P (pure (if h:a.size=1 then a[0]else Value.tuple a)) w')) h1
 rw[hrun]
 match xs with
 |[]=>rfl
 |[x]=>rfl
 |x::y::xs=>simp[cC]
end
end Go.Proofs.YtobejhpigbllpaaGreatDoor.Am
namespace Go.Proofs.YtobejhpigbllpaaGreatDoor.Am
section
variable{T:Hj→Oper→Bool}{P:Program}{tb:CD}{cl:Nat→List AV→Av→JG}{nt:Nat}
theorem Tj{D:Da}(I:Inv tb D){n id:Nat}(hid:id<D.H.length)(h: ¬id<n): ¬(D.cut n).own (D.φ id).blk:=by
 rintro⟨j,hj,e⟩
 simp only[Da.cut,List.length_take]at hj
 have:=I.inj j id (by omega) hid e
 omega
theorem dZ{D:Da}{n:Nat}{v:AV}{x:Value}(h:Bz v≤n)(r:Fj D v x):Fj (D.cut n) v x∧(scal v=true→scal v=true):=⟨r.cut h,fun h=>h⟩
def wE(D:Da)(n:Nat)(F:AV→Option AV):Prop:= ∀(v v':AV) (x:Value),F v=some v'→Fj D v x→Fj (D.cut n) v' x∧(scal v=true→scal v'=true)
theorem K8{D:Da}{n:Nat}{F:AV→Option AV}(hF:wE D n F): ∀{l l':List AV} {xs:List Value},Dm F l=some l'→AT D l xs→AT (D.cut n) l' xs∧(l.all scal=true→l'.all scal=true)∧l'.length=l.length
 |[],_,_,h,r=>by
  simp only[Dm,Option.some.injEq]at h
  subst h
  exact⟨r,fun h=>h,rfl⟩
 |v::l,_,_,h,⟨x,q,e,r,rr⟩=>by
  simp only[Dm]at h
  obtain⟨v',hv,h⟩:=Option.bind_eq_some_iff.1 h
  obtain⟨l',hl,rfl⟩:=Option.map_eq_some_iff.1 h
  obtain⟨h1,h2⟩:=hF _ _ _ hv r
  obtain⟨h3,h4,h5⟩:=K8 hF hl rr
  refine⟨⟨x,q,e,h1,h3⟩,fun hs=> ?_,by simp[h5]⟩
  simp only[List.all_cons,Bool.and_eq_true]at hs ⊢
  exact⟨h2 hs.1,h4 hs.2⟩
theorem Nc{D:Da}{n sz:Nat}{F:AV→Option AV}(hF:wE D n F): ∀{l l':List (List AV)} {xs:List (List Value)},Dm (Dm F) l=some l'→AK D l xs→(∀e∈l,e.length=sz∧e.all scal=true)→
  AK (D.cut n) l' xs∧(∀e∈l',e.length=sz∧e.all scal=true)∧l'.length=l.length
 |[],_,_,h,r,_=>by
  simp only[Dm,Option.some.injEq]at h
  subst h
  exact⟨r,fun e h=>(by cases h),rfl⟩
 |v::l,_,_,h,⟨x,q,e,r,rr⟩,hs=>by
  simp only[Dm]at h
  obtain⟨v',hv,h⟩:=Option.bind_eq_some_iff.1 h
  obtain⟨l',hl,rfl⟩:=Option.map_eq_some_iff.1 h
  obtain⟨h1,h2,h6⟩:=K8 hF hv r
  obtain⟨h3,h4,h5⟩:=Nc hF hl rr fun e he=>hs e (List.mem_cons_of_mem _ he)
  refine⟨⟨x,q,e,h1,h3⟩,fun e he=> ?_,by simp[h5]⟩
  have h0:=hs v List.mem_cons_self
  rcases List.mem_cons.1 he with rfl|he
  ·exact⟨h6.trans h0.1,h2 h0.2⟩
  ·exact h4 e he
theorem ZK{D:Da}(I:Inv tb D){n:Nat}: ∀d,wE D n (frz D.H n d)
 |0=>fun v v' x h r=>by
  simp only[frz]at h
  split at h
  ·rename_i hm
   obtain rfl:=Option.some.inj h
   exact dZ hm r
  ·cases h
 |d+1=>fun v v' x h r=>by
  simp only[frz]at h
  split at h
  ·rename_i hm
   obtain rfl:=Option.some.inj h
   exact dZ hm r
  ·rename_i hm
   have ih:=ZK I (n:=n) d
   split at h
   ·rename_i id k lo len
    have hid: ¬id<n:=by simp only[Bz]at hm;omega
    obtain⟨_,fz,sz,els,hg,hle,q⟩:=r
    simp only[hg,Option.bind_some]at h
    split at h
    ·rename_i hc
     obtain⟨hk,hlo⟩:=hc
     obtain⟨els',he,rfl⟩:=Option.map_eq_some_iff.1 h
     refine⟨?_,fun _=>rfl⟩
     obtain⟨_,off,cap,rfl,hlc,hoff,_,_⟩:=q hk
     obtain⟨tl,hg',hlab⟩:=H6 hg
     obtain⟨vss,arr,et,fr,⟨h1,_⟩,h2,h3,h4,h5,h6,h7,h8,h9⟩:=I.obj id _ hg'
     have hlens:=AK.lens (fun x hx=>(h4 x hx).1) h5
     have hlen:((els.drop lo).take len).length=len:=by simp only[List.length_take,List.length_drop];omega
     obtain⟨q1,q2,q3⟩:=Nc (sz:=sz) ih he (h5.drop.take) fun e he=>h4 e (List.mem_of_mem_drop (List.mem_of_mem_take he))
     refine .inl ⟨(D.φ id).blk,off,cap,(vss.drop lo).take len,by rw[q3,hlen],by rw[q3,hlen];exact hlc,I.lt id (AM hg'),Tj I (AM hg') hid,?_,q2,q1⟩
     intro j v hj
     have hpos:0<len:=by
      rcases Nat.eq_zero_or_pos len with h|h
      ·subst h;simp at hj
      ·exact h
     rw[hoff hpos]
     have hh:=h7.sub (lo*sz) (len*sz)
     refine hh j v ?_
     rw[DB (sz:=sz) _ _ (fun x hx=>hlens x (List.mem_of_mem_drop hx)),Ee (sz:=sz) _ _ hlens]at hj
     exact hj
    ·cases h
   ·rename_i sz id off len
    have hid: ¬id<n:=by simp only[Bz]at hm;omega
    obtain⟨_,o,cap,rfl,hlc,hoff,hsz⟩:=r
    obtain⟨cs,hc,h⟩:=Option.bind_eq_some_iff.1 h
    split at h
    ·rename_i hcond
     obtain⟨els',he,rfl⟩:=Option.map_eq_some_iff.1 h
     refine⟨?_,fun _=>rfl⟩
     obtain⟨tl,hg,hlab⟩:=M9 hc
     obtain⟨vs,arr,et,fr,⟨h1,_⟩,h2,h3,h4,h5,h6⟩:=I.obj id _ hg
     obtain⟨c1,c2,vss,c3,c4⟩:=T9 (C:=D) sz len (cs.drop off) (vs.drop off) D.w (D.φ id).blk off (by
      simp only[List.all_eq_true]at h3 ⊢
      exact fun x hx=>h3 x (List.mem_of_mem_drop hx)) h4.drop (by
      have:=h5.sub off (vs.drop off).length
      rw[Nat.zero_add]at this
      rwa [List.take_of_length_le (Nat.le_refl _)]at this) (by simp only[List.length_drop];omega)
     obtain⟨q1,q2,q3⟩:=Nc (sz:=sz) ih he c4 c2
     refine .inl ⟨(D.φ id).blk,o,cap,vss,by rw[q3,c1],by rw[q3,c1];exact hlc,I.lt id (AM hg),Tj I (AM hg) hid,?_,q2,q1⟩
     intro j v hj
     have hpos:0<len:=by
      rcases Nat.eq_zero_or_pos len with h|h
      ·subst h
       simp only[BI]at c4
       rw[show vss=[]from c4]at hj
       simp at hj
      ·exact h
     rw[hoff hpos]
     exact c3 j v hj
    ·cases h
   ·rename_i sz els
    obtain⟨els',he,rfl⟩:=Option.map_eq_some_iff.1 h
    refine⟨?_,fun _=>rfl⟩
    rcases r with ⟨b,base,cap,vss,rfl,hlc,hlt,hown,hh,hs,hr⟩|⟨rfl,p,cap,rfl⟩
    ·obtain⟨q1,q2,q3⟩:=Nc (sz:=sz) ih he hr hs
     exact .inl ⟨b,base,cap,vss,by rw[q3],by rw[q3];exact hlc,hlt,OZ hown,hh,q2,q1⟩
    ·simp only[Dm,Option.some.injEq]at he
     subst he
     exact .inr ⟨rfl,p,cap,rfl⟩
   ·rename_i cs
    obtain⟨vs,e,s,q⟩:=r
    obtain⟨cs',hc,rfl⟩:=Option.map_eq_some_iff.1 h
    obtain⟨h1,h2,_⟩:=K8 ih hc q
    exact⟨⟨vs,e,h2 s,h1⟩,fun h=>by simp[scal]at h⟩
   ·rename_i cs
    obtain⟨vs,e,q⟩:=r
    obtain⟨cs',hc,rfl⟩:=Option.map_eq_some_iff.1 h
    exact⟨⟨vs,e,(K8 ih hc q).1⟩,fun h=>by simp[scal]at h⟩
   ·cases h
theorem uM{D:Da}(I:Inv tb D){n:Nat}{l l':List AV}{xs:List Value}(h:ZL D.H n l=some l')(r:AT D l xs):AT (D.cut n) l' xs∧(l.all scal=true→l'.all scal=true):=
 ⟨(K8 (ZK I 12) h r).1,(K8 (ZK I 12) h r).2.1⟩
theorem cU{C D:Da}(X:JH C D)(I:Inv tb D)(hg: ∀g cs,tb.gl g=some cs→Bc cs=0){vs:List AV}{xs:List Value}(h:AT D vs xs):
  ∃D':Da,JH C D'∧Inv tb D'∧D'.w=D.w∧D'.H=(V3 C.H.length D.H vs).2.getD C.H∧Fj D' (V3 C.H.length D.H vs).1 (cC xs):=by
 unfold V3
 split
 ·rename_i vs' hf
  split
  ·rename_i hm
   exact⟨D.cut C.H.length,X.cut (Nat.le_refl _),I.cut hm hg,rfl,rfl,MU (uM I hf h).1⟩
  ·exact⟨D,X,I,rfl,rfl,MU h⟩
 ·exact⟨D,X,I,rfl,rfl,MU h⟩
theorem gY{C D:Da}(X:JH C D)(I:Inv tb D)(hg: ∀g cs,tb.gl g=some cs→Bc cs=0){warm:Bool}{vs:List AV}{xs:List Value}(h:AT D vs xs):
  ∃D':Da,JH C D'∧Inv tb D'∧D'.w=D.w∧D'.H=(Vq warm C.H.length D.H vs).2.getD C.H∧Fj D' (Vq warm C.H.length D.H vs).1 (cC xs):=by
 cases warm
 ·exact cU X I hg h
 ·exact⟨D,X,I,rfl,rfl,MU h⟩
theorem dY: ∀(l:List AV) (k t:Nat),get ((l.zipIdx k).map fun p=>(p.2,p.1)) t=if k≤t then l[t-k]?.getD .junk else .junk
 |[],k,t=>by simp[get]
 |v::l,k,t=>by
  simp only[List.zipIdx_cons,List.map_cons,get]
  rw[dY l (k+1) t]
  by_cases h:k=t
  ·subst h;simp
  ·rw[if_neg h]
   by_cases h1:k≤t
   ·rw[if_pos (show k+1≤t by omega),if_pos h1,show t-k=(t-(k+1))+1 by omega]
    simp
   ·rw[if_neg (by omega),if_neg h1]
theorem zM{C:Da}{args:List AV}{vs:List Value}(h:AT C args vs){m:Nat}(hm:args.length≤m):
  Bn C (args.zipIdx.map fun p=>(p.2,p.1)) {tmps:=vs.toArray++Array.replicate (m-vs.toArray.size) undef,defers:=[]} m:=by
 have hl:=h.length
 refine⟨fun t=> ?_,by simp;omega,rfl⟩
 rw[dY,if_pos (Nat.zero_le _),Nat.sub_zero]
 cases ht:args[t]? with
 |none=>trivial
 |some v=>
  obtain⟨x,hx,r⟩:=h.get ht
  have:t<vs.length:=AM hx
  simp only[Option.getD_some,Array.getD_eq_getD_getElem?]
  rw[Array.getElem?_append_left (by simpa using this)]
  simpa [hx]using r
theorem Ye{fn:Dx}{g:Nat}(h:B0 T P fn g=true): ∃(F:Func) (c:Code),P.funcs[g]? =some F∧F.body=some c∧Qe T fn.nt fn.body c=true∧(F.name== "runtime.NumGoroutine")=false∧fn.nt=F.ntmps∧fn.np≤fn.nt∧
  Oq P fn.res F.results.toList=true:=by
 unfold B0 at h
 split at h
 ·rename_i F hF
  simp only[Bool.and_eq_true,Bool.not_eq_true',beq_iff_eq,decide_eq_true_eq]at h
  obtain⟨⟨⟨⟨h1,h2⟩,h3⟩,h4⟩,h5⟩:=h
  split at h1
  ·rename_i c hc
   exact⟨F,c,hF,hc,h1,h2,h3,h4,h5⟩
  ·cases h1
 ·cases h
theorem W3(hm:P.follows .mixedOrders=true)(hT: ∀ao o,T ao o=true→CZ P tb ao o)(hcl:E4 P tb fun g args h=>Bs tb cl h g args)(hg: ∀g cs,tb.gl g=some cs→Bc cs=0)
  {fn:Dx} {g:Nat} (hok:B0 T P fn g=true) {C:Da} {args:List AV} {vs:List Value} {r:AV×Option Av} (I:Inv tb C) (hr:AT C args vs) (h:body tb cl fn args C.H=some r):
  Calls P g vs.toArray C.w (mO tb C r):=by
 obtain⟨F,c,hF,hc,h1,h2,h3,h4,h5⟩:=Ye hok
 simp only[body]at h
 split at h
 ·rename_i hnp
  obtain⟨⟨e,f,h'⟩,he,h⟩:=Option.bind_eq_some_iff.1 h
  refine calls_of_wp hF hc ?_
  rw[←h3]
  refine jM hm hT hcl hg fn.body c h1 he I (zM hr (by omega)) fun D a' N=> ?_
  obtain⟨X,ID,hH,FD⟩:=N
  have fin: ∀us,results f h' fn.res=some us→Vq fn.warm C.H.length h' us=r→ ∃v,(Go.results F a'.tmps).run P D.w= .ok v D.w∧mO tb C r (.returned v) D.w:=by
   intro us hus hl
   rw[←hH]at hus hl
   obtain⟨xs,hx,rx⟩:=bP ID FD h5 hus
   obtain⟨D',X',I',hw,hH',r'⟩:=gY (warm:=fn.warm) X ID hg rx
   rw[hl]at hH' r'
   exact⟨_,hx,_,D',rfl,X',I',hw,hH',r'⟩
  cases e with
  |exit id=>simp at h
  |normal=>
   obtain⟨us,hus,hl⟩:=Option.map_eq_some_iff.1 h
   exact⟨FD.defers,fin us hus hl⟩
  |ret=>
   obtain⟨us,hus,hl⟩:=Option.map_eq_some_iff.1 h
   exact⟨FD.defers,fin us hus hl⟩
 ·cases h
structure Aa8(T:Hj→Oper→Bool)(P:Program)(tb:CD):Prop where
 mixed:P.follows .mixedOrders=true
 ops: ∀ao o,T ao o=true→CZ P tb ao o
 prims:mM P tb
 gl: ∀g cs,tb.gl g=some cs→Bc cs=0
 fns: ∀g fn,tb.fns g=some fn→B0 T P fn g=true
theorem fG{fn:Dx}{g:Nat}(hok:B0 T P fn g=true)(vs:Array Value)(w:World):(callFunc g vs).run P w= .ok (.enter g vs) w:=by
 obtain⟨F,c,hF,hc,_,h2,_⟩:=Ye hok
 have h2': ¬F.name= "runtime.NumGoroutine" :=by simpa using h2
 simp[callFunc,hF,hc,h2']
theorem XQ(ft:Aa8 T P tb): ∀n,E4 P tb (run tb n)
 |0=>fun g C args vs r I hr h=>by simp[run]at h
 |n+1=>fun g C args vs r I hr h=>by
  simp only[run]at h
  obtain⟨fn,hfn,h⟩:=Option.bind_eq_some_iff.1 h
  have hok:=ft.fns g fn hfn
  exact .inr ⟨g,vs.toArray,fG hok _ _,W3 ft.mixed ft.ops (NQ ft.prims (XQ ft n)) ft.gl hok I hr h⟩
theorem pA(ft:Aa8 T P tb){g:Nat}{C:Da}{args:List AV}{vs:List Value}{r:AV×Option Av}(I:Inv tb C)(hr:AT C args vs)(h:BW tb g args C.H=some r):Calls P g vs.toArray C.w (mO tb C r):=by
 unfold BW at h
 split at h
 ·generalize Classical.choose _=n at h
  cases n with
  |zero=>simp[run]at h
  |succ n=>
   simp only[run]at h
   obtain⟨fn,hfn,h⟩:=Option.bind_eq_some_iff.1 h
   exact W3 ft.mixed ft.ops (NQ ft.prims (XQ ft n)) ft.gl (ft.fns g fn hfn) I hr h
 ·cases h
end
end Go.Proofs.YtobejhpigbllpaaGreatDoor.Am
namespace Go.Proofs.YtobejhpigbllpaaGreatDoor.Am
def ZY(P:Program)(g:Nat):Option (Array Value→Sem Value):=
 match P.funcs[g]? with
 |some fn=>if !(fn.name== "runtime.NumGoroutine")&&fn.body.isNone&&(Extern.findNext fn).isNone then Extern.find fn else none
 |none=>none
def OD(h:Av):AV→Option (List UInt8)
 | .s l=>some l
 |v=>(Es h 1 v).bind Eg
def Oo:List AV→Av→Option (AV×Option Av)
 |[x,y],h=>(OD h x).bind fun a=>(OD h y).map fun b=>(.i .i64 (Extern.BytealgCompare.cmp ⟨a.toArray⟩ ⟨b.toArray⟩),none)
 |_,_=>none
section
variable{P:Program}{tb:CD}{C:Da}
theorem Zm{g:Nat}{e:Array Value→Sem Value}(he:ZY P g=some e){vs:Array Value}{v:Value}{w:World}(h:(e vs).run P w= .ok v w):(callFunc g vs).run P w= .ok (.value v) w:=by
 unfold ZY at he
 split at he
 ·rename_i fn hf
  split at he
  ·rename_i hc
   simp only[Bool.and_eq_true,Bool.not_eq_true',Option.isNone_iff_eq_none]at hc
   obtain⟨⟨h1,h2⟩,h3⟩:=hc
   have h2':fn.body.isNone=true:=by rw[h2];rfl
   simp only[callFunc,Sem.run_bind,run_program,Result.andThen_ok,hf,h1,Bool.false_eq_true,if_false,h2',if_true,run_mark,h3,he,h,Sem.run_pure]
  ·cases he
 ·cases he
theorem pG{e:List AV}{r:List (List AV)}{l:List UInt8}(h:Eg (e::r)=some l): ∃n q,e=[.i .u8 n]∧Eg r=some q∧l=UInt8.ofNat n.toNat::q:=by
 unfold Eg at h
 split at h
 ·rename_i he;cases he
 ·rename_i n r' he
  cases he
  obtain⟨q,hq,rfl⟩:=Option.map_eq_some_iff.1 h
  exact⟨n,q,rfl,hq,rfl⟩
 ·cases h
theorem qS(w:World)(b:Nat): ∀(els:List (List AV)) (vss:List (List Value)) (l:List UInt8) (o:Nat) (acc:ByteArray),AK C els vss→Eg els=some l→D1 w b o vss.flatten→
  (Extern.Bytes.loadBytes ⟨b,o,none⟩ els.length acc).run P w= .ok ⟨acc.data++l.toArray⟩ w
 |[],_,l,o,acc,_,h,_=>by
  simp only[Eg,Option.some.injEq]at h
  subst h
  simp[Extern.Bytes.loadBytes]
 |e::els,vss,l,o,acc,⟨v,q,e1,r1,r2⟩,h,hh=>by
  subst e1
  obtain⟨n,l',rfl,hl,rfl⟩:=pG h
  obtain⟨u,us,e2,ru,e3⟩:=r1
  have e3':us=[]:=e3
  have ru':u= .int .u8 n:=ru
  subst e3';subst e2;subst ru'
  have h0:w.cell? ⟨b,o,none⟩=some (.int .u8 n):=by
   have:=hh 0 (.int .u8 n) (by simp)
   simpa using this
  have hn:(⟨b,o,none⟩:Addr).add 1=⟨b,o+1,none⟩:=rfl
  have ih:=qS w b els q l' (o+1) (acc.push n.toNat.toUInt8) r2 hl (fun j v hj=>by
   have:=hh (j+1) v (by simpa using hj)
   rw[show o+1+j=o+(j+1) by omega]
   exact this)
  simp only[List.length_cons,Extern.Bytes.loadBytes,Sem.run_bind,run_load,h0,Result.andThen_ok,hn,ih]
  congr 1
  apply ByteArray.ext
  simp[ByteArray.push,Nat.toUInt8]
theorem Sk(I:Inv tb C){x:AV}{v:Value}{l:List UInt8}(r:Fj C x v)(h:OD C.H x=some l):(Extern.Bytes.bytesOf v).run P C.w= .ok ⟨l.toArray⟩ C.w:=by
 have slc:(Es C.H 1 x).bind Eg=some l→(Extern.Bytes.bytesOf v).run P C.w= .ok ⟨l.toArray⟩ C.w:=by
  intro h
  obtain⟨els,he,hl⟩:=Option.bind_eq_some_iff.1 h
  rcases aA I (by omega) r he with ⟨rfl,e⟩|⟨q,cap,vss,e,hlc,hh,hs,hr⟩
  ·subst e
   simp only[Eg,Option.some.injEq]at hl
   subst hl
   rfl
  ·subst e
   by_cases hne:els=[]
   ·subst hne
    simp only[Eg,Option.some.injEq]at hl
    subst hl
    rfl
   ·obtain⟨b,base,rfl,hh2⟩:=hh hne
    have:=qS (P:=P) (C:=C) C.w b els vss l base .empty hr hl hh2
    simp only[Extern.Bytes.bytesOf,this]
    congr 1
    apply ByteArray.ext
    show(#[]:Array UInt8)++l.toArray=l.toArray
    simp
 cases x<;>simp only[OD]at h<;>try exact slc h
 obtain rfl:=Option.some.inj h
 have e:v= .string ⟨_⟩:=r
 subst e
 rfl
theorem Zr{g:Nat}(he:ZY P g=some Extern.BytealgCompare.compare):E4 P tb fun g' args h=>if g'=g then Oo args h else none:=by
 intro g' D args vs r I hr h
 dsimp only at h
 split at h
 ·rename_i hg
  subst hg
  unfold Oo at h
  split at h
  ·rename_i x y h'
   obtain⟨v,vs',e1,r1,v2,vs2,e2,r2,e3⟩:=hr
   have e3':vs2=[]:=e3
   subst e3';subst e2;subst e1
   obtain⟨a,ha,h⟩:=Option.bind_eq_some_iff.1 h
   obtain⟨b,hb,rfl⟩:=Option.map_eq_some_iff.1 h
   refine .inl (Aw I (v:= .int .i64 (Extern.BytealgCompare.cmp ⟨a.toArray⟩ ⟨b.toArray⟩)) (Zm he ?_) rfl)
   change Sem.run P (do pure (goInt (Extern.BytealgCompare.cmp (←Extern.Bytes.bytesOf v) (←Extern.Bytes.bytesOf v2)))) D.w=_
   simp only[Sem.run_bind,Sk I r1 ha,Sk I r2 hb,Result.andThen_ok,Sem.run_pure,goInt]
  ·cases h
 ·cases h
end
end Go.Proofs.YtobejhpigbllpaaGreatDoor.Am
namespace Go.Proofs.YtobejhpigbllpaaGreatDoor.Am
def Kb(l:List UInt8)(c:UInt8):Int:=match l.findIdx? (fun x=>x==c)with
 |some i=>(i:Int)
 |none=> -1
def vG:AV→Option UInt8
 | .i .u8 n=>some (UInt8.ofNat n.toNat)
 |_=>none
def cD(f:List UInt8→UInt8→Int):List AV→Av→Option (AV×Option Av)
 |[x,y],h=>(vG y).bind fun c=>(OD h x).map fun a=>(.i .i64 (f a c),none)
 |_,_=>none
def Vt:List AV→Av→Option (AV×Option Av):=cD Kb
theorem find_range{l:List UInt8}{c:UInt8}:((List.range l.length).find? fun i=>l.toArray[i]! ==c)=l.findIdx? (fun x=>x==c):=by
 have key: ∀(m:List UInt8) (k:Nat),k+m.length=l.length→(∀i,m[i]? =l[k+i]?)→((List.range' k m.length).find? fun i=>l.toArray[i]! ==c)=(m.findIdx? (fun x=>x==c)).map (k+ ·):=by
  intro m
  induction m with
  |nil=>intro k _ _;rfl
  |cons x m ih=>
   intro k hk he
   have h0:l.toArray[k]! =x:=by
    have:=he 0
    simp only[List.getElem?_cons_zero,Nat.add_zero]at this
    simp[←this]
   rw[List.length_cons,List.range'_succ,List.find?_cons,h0,List.findIdx?_cons]
   cases hx:x==c with
   |true=>simp
   |false=>
    simp only[Bool.false_eq_true,if_false]
    rw[ih (k+1) (by simp at hk;omega) (fun i=>by have:=he (i+1);simp only[List.getElem?_cons_succ]at this;rw[this];congr 1;omega)]
    cases m.findIdx? (fun x=>x==c)with
    |none=>rfl
    |some i=>simp;omega
 have:=key l 0 (by simp) (fun i=>by simp)
 rw[List.range_eq_range',this]
 cases l.findIdx? (fun x=>x==c)<;>simp
theorem qT{l:List UInt8}{c:UInt8}:(match(List.range (⟨l.toArray⟩:ByteArray).size).find? fun i=>(⟨l.toArray⟩:ByteArray)[i]! ==c with
  |some i=>goInt i
  |none=>goInt (-1))= .int .i64 (Kb l c):=by
 have h:(List.range (⟨l.toArray⟩:ByteArray).size).find? (fun i=>(⟨l.toArray⟩:ByteArray)[i]! ==c)=l.findIdx? (fun x=>x==c):=by
  rw[←find_range]
  congr 1
  funext i
  congr 1
  by_cases hi:i<l.length
  ·rw[getElem!_pos _ _ (by simpa [ByteArray.size]using hi),getElem!_pos _ _ (by simpa using hi)];rfl
  ·rw[getElem!_neg _ _ (by simpa [ByteArray.size]using hi),getElem!_neg _ _ (by simpa using hi)]
 rw[h]
 unfold Kb
 cases l.findIdx? (fun x=>x==c)<;>rfl
section
variable{P:Program}{tb:CD}
theorem nM{g:Nat}{f:List UInt8→UInt8→Int}{e:Array Value→Sem Value}(he:ZY P g=some e)
  (hf: ∀(v:Value) (n:Int) (l:List UInt8) (w:World),(Extern.Bytes.bytesOf v).run P w= .ok ⟨l.toArray⟩ w→(e #[v, .int .u8 n]).run P w= .ok (.int .i64 (f l (UInt8.ofNat n.toNat))) w):E4 P tb fun g' args h=>if g'=g then cD f args h else none:=by
 intro g' D args vs r I hr h
 dsimp only at h
 split at h
 ·rename_i hg
  subst hg
  unfold cD at h
  split at h
  ·rename_i hh x y
   obtain⟨v,vs',e1,r1,v2,vs2,e2,r2,e3⟩:=hr
   have e3':vs2=[]:=e3
   subst e3';subst e2;subst e1
   obtain⟨c,hc,h⟩:=Option.bind_eq_some_iff.1 h
   obtain⟨a,ha,rfl⟩:=Option.map_eq_some_iff.1 h
   unfold vG at hc
   cases y with
   |i k n=>
    have r2':v2= .int k n:=r2
    subst r2'
    cases k<;>simp only[reduceCtorEq,Option.some.injEq]at hc
    subst hc
    exact .inl (Aw I (v:= .int .i64 (f a (UInt8.ofNat n.toNat))) (Zm he (hf v n a D.w (Sk (P:=P) I r1 ha))) rfl)
   |_=>cases hc
  ·cases h
 ·cases h
theorem Vs{g:Nat}(he:ZY P g=some Extern.BytealgIndexByte.indexByte):E4 P tb fun g' args h=>if g'=g then Vt args h else none:=
 nM he fun v n l w h=>by
  change Sem.run P (do
   let b←Extern.Bytes.bytesOf v
   let c←Extern.Bytes.asByte (.int .u8 n)
   match(List.range b.size).find? fun i=>b[i]! ==c with
   |some i=>pure (goInt i)
   |none=>pure (goInt (-1))) w=_
  simp only[Sem.run_bind,h,Result.andThen_ok,Extern.Bytes.asByte,Sem.run_pure]
  have:=qT (l:=l) (c:=UInt8.ofNat n.toNat)
  have hc:n.toNat.toUInt8=UInt8.ofNat n.toNat:=rfl
  rw[hc]
  split<;>rename_i hx<;>rw[hx]at this<;>simp only[]at this<;>rw[←this]<;>rfl
end
def NG:List AV→Av→Option (AV×Option Av)
 |[x],_=>some (x,none)
 |_,_=>none
theorem nK{P:Program}{tb:CD}{g:Nat}(he:ZY P g=some Extern.AbiNoEscape.same):E4 P tb fun g' args h=>if g'=g then NG args h else none:=by
 intro g' D args vs r I hr h
 dsimp only at h
 split at h
 ·rename_i hg
  subst hg
  unfold NG at h
  split at h
  ·cases h
   obtain⟨v,vs',e1,r1,e3⟩:=hr
   have e3':vs'=[]:=e3
   subst e3';subst e1
   exact .inl (Aw I (v:=v) (Zm he rfl) r1)
  ·cases h
 ·cases h
end Go.Proofs.YtobejhpigbllpaaGreatDoor.Am
namespace Go.Proofs.YtobejhpigbllpaaGreatDoor.Am
section
variable{tb:CD}{Γ:Cx}{a b:AO}
inductive aR(tb:CD)(Γ:Cx):(As:List T)→List AO→Ce As→Prop where
 |nil:aR tb Γ [] [] ()
 |one {a:AO} {t:T} {x:t.α} (h:Cv tb Γ a (.val t x)):aR tb Γ [t] [a] x
 |cons {a:AO} {t u:T} {x:t.α} {As:List T} {l:List AO} {y:Ce (u::As)} (h:Cv tb Γ a (.val t x)) (k:aR tb Γ (u::As) l y):aR tb Γ (t::u::As) (a::l) (x,y)
theorem aR.spec{E:Oc}{rv:Nat→AV}{fp:Fp}{f:Fr}{H:Av}(R:Bm E Γ rv fp f H): ∀{As:List T} {l:List AO} {x:Ce As},aR tb Γ As l x→TF (Pf E Γ.ss fp H) H As (l.map (eval tb f)) x
 |_,_,_, .nil=>rfl
 |_,_,_, .one h=>⟨_,rfl,h E rv fp f H R⟩
 |_,_,_, .cons h k=>⟨_,_,rfl,h E rv fp f H R,k.spec R⟩
def mQ:(Rs:List T)→Ce Rs→List (Σ t:T,t.α)
 |[],_=>[]
 |[a],x=>[⟨a,x⟩]
 |a::b::r,x=>⟨a,x.1⟩::mQ (b::r) x.2
theorem bB{P:Nat→Prop}{H:Av}: ∀{Rs:List T} {vs:List AV} {x:Ce Rs},TF P H Rs vs x→U0 P H vs (mQ Rs x)
 |[],_,_,h=>by rw[show _=[]from h];trivial
 |[a],_,_,⟨v,e,h⟩=>by rw[e];exact⟨h,trivial⟩
 |a::b::r,_,_,⟨v,q,e,h,g⟩=>by rw[e];exact⟨h,bB g⟩
def rE:(Rs:List T)→Ce Rs→AJ
 |[a],x=> .val a x
 |Rs,x=> .tup (mQ Rs x)
theorem Vu{rv:Nat→AV}{ss:Ss}{P:Nat→Prop}{H:Av}{v:AV}: ∀{Rs:List T} {x:Ce Rs},OutR P H Rs v x→FR rv ss P H (rE Rs x) v
 |[],_,⟨vs,e,h⟩=>by rw[e,show vs=[]from h];exact⟨[],rfl,trivial⟩
 |[a],_,⟨vs,e,v,e',h⟩=>by rw[e,e'];exact h
 |a::b::r,_,⟨vs,e,h⟩=>by
  have hh:=h
  obtain⟨v1,q,e1,h1,h2⟩:=h
  have: ∃v2 q2,q=v2::q2:=by
   cases r with
   |nil=>obtain⟨v2,e2,_⟩:=h2;exact⟨v2,[],e2⟩
   |cons c r=>obtain⟨v2,q2,e2,_⟩:=h2;exact⟨v2,q2,e2⟩
  obtain⟨v2,q2,e2⟩:=this
  refine⟨vs,?_,bB hh⟩
  rw[e,e1,e2];rfl
theorem uG{g:Nat}{As Rs:List T}{F:Ce As→Option (Ce Rs)}{l:List AO}{x:Ce As}(sp:Spec tb g As Rs F)(hx:aR tb Γ As l x):Fi tb Γ (.call g l) (F x) fun r=>rE Rs r:=by
 intro E rv fp f H R r hr
 obtain⟨v,u,h1,h2,h3⟩:=(sp (Pf E Γ.ss fp H) H _ x R.ltP R.wf (hx.spec R) r hr).call
 exact⟨v,u,by simp only[Bo];exact h1,h2,Vu h3⟩
theorem AF{g:Nat}{As:List T}{t:T}{F:Ce As→Option (Ce [t])}{l:List AO}{x:Ce As}(sp:Spec tb g As [t] F)(hx:aR tb Γ As l x):Fi tb Γ (.call g l) (F x) fun r:t.α=> .val t r:=uG sp hx
theorem Jg{g:Nat}{As:List T}{t u:T}{Rs:List T}{F:Ce As→Option (Ce (t::u::Rs))}{l:List AO}{x:Ce As}(sp:Spec tb g As (t::u::Rs) F)(hx:aR tb Γ As l x):Fi tb Γ (.call g l) (F x) fun r=> .tup (mQ (t::u::Rs) r):=uG sp hx
theorem Cp{l:List (Σ t:T,t.α)}{i:Nat}{t:T}{x:t.α}(ha:Cv tb Γ a (.tup l))(h:l[i]? =some ⟨t,x⟩):Fi tb Γ (.ext a i) (some ()) fun _=> .val t x:=by
 rintro E rv fp f H R _ ⟨⟩
 obtain⟨vs,e,hv⟩:=ha E rv fp f H R
 have: ∀{vs:List AV} {l:List (Σ t:T,t.α)} {i:Nat} {p: Σ t:T,t.α},U0 (Pf E Γ.ss fp H) H vs l→l[i]? =some p→ ∃v,vs[i]? =some v∧p.1.V (Pf E Γ.ss fp H) H v p.2:=by
  intro vs
  induction vs with
  |nil=>intro l i p h e;cases l with|nil=>simp at e|cons=>exact h.elim
  |cons v vs ih=>
   intro l i p h e
   cases l with
   |nil=>exact h.elim
   |cons q l=>
    cases i with
    |zero=>simp only[List.getElem?_cons_zero,Option.some.injEq]at e;subst e;exact⟨v,rfl,h.1⟩
    |succ i=>simp only[List.getElem?_cons_succ]at e;obtain⟨w,h1,h2⟩:=ih h.2 e;exact⟨w,by simpa using h1,h2⟩
 obtain⟨v,h1,h2⟩:=this hv h
 exact⟨v,none,by simp only[Bo,e,h1,val,Option.map_some],rfl,h2⟩
end
structure BZ(t:T)(l:List CK) where
 d:(x y:t.α)→Decidable (x=y)
 h: ∀{P Q:Nat→Prop} {H G:Av} {c c':List AV} {x y:t.α},t.R P H c x→t.R Q G c' y→KD l c c'=some (@decide (x=y) (d x y))
theorem lQ{l m:List CK}: ∀{c d c' d':List AV} {p q:Bool},KD l c c'=some p→KD m d d'=some q→KD (l++m) (c++d) (c'++d')=some (p&&q):=by
 induction l with
 |nil=>
  intro c d c' d' p q h g
  match c,c',h with
  |[],[],h=>simp only[KD,Option.some.injEq]at h;subst h;simpa using g
 |cons k l ih=>
  intro c d c' d' p q h g
  match c,c',h with
  |[],[],h=>simp[KD]at h
  |[],_::_,h=>simp[KD]at h
  |_::_,[],h=>simp[KD]at h
  |x::c,y::c',h=>
   simp only[KD]at h
   obtain⟨e,he,h⟩:=Option.bind_eq_some_iff.1 h
   obtain⟨e',he',rfl⟩:=Option.map_eq_some_iff.1 h
   simp only[List.cons_append,KD,he,Option.bind_some,ih he' g,Option.map_some,Bool.and_assoc]
theorem aB{p q:Prop}{d:Decidable p}{e:Decidable q}(h:p↔q): @decide p d= @decide q e:=by
 rw[Bool.eq_iff_iff];simp only[decide_eq_true_eq];exact h
theorem dec_of{p:Prop}{d:Decidable p}{q:Bool}(h:q=true↔p):q= @decide p d:=by
 rw[Bool.eq_iff_iff];simp only[decide_eq_true_eq];exact h
def UF{α:Type}{c:α→AV}{z:α}{hs: ∀x,scal (c x)=true}{hm: ∀x,Bz (c x)=0}(k:CK)(d:(x y:α)→Decidable (x=y))(h: ∀x y,oW k (c x) (c y)=some (@decide (x=y) (d x y))):BZ (RH α c z hs hm) [k]:=
 ⟨d,fun{P Q H G c' d' x y} h1 h2=>by
  rw[show c'=_ from h1,show d'=_ from h2]
  show(oW k (c x) (c y)).bind (fun a=>(some true).map fun b=>a&&b)=_
  rw[h x y]
  simp only[Option.bind_some,Option.map_some,Bool.and_true]
  rfl⟩
def BZ.b:BZ T.b [.b]:=UF .b (fun x y=>inferInstance) fun x y=>by cases x<;>cases y<;>rfl
def BZ.int(k:IntKind):BZ (T.int k) [.i k]:=UF (.i k) (fun x y=>inferInstance) fun x y=>by simp only[oW,and_self,if_true];rfl
theorem uR{x y:Nat}:((x:Int)==(y:Int))=decide (x=y):=by
 rw[Bool.eq_iff_iff];simp only[beq_iff_eq,decide_eq_true_eq];omega
def BZ.u8:BZ T.u8 [.i .u8]:=UF (.i .u8) (fun x y=>inferInstance) fun x y=>by
 simp only[oW,and_self,if_true,uR];congr 1;exact aB UInt8.toNat_inj
def BZ.u64:BZ T.u64 [.i .u64]:=UF (.i .u64) (fun x y=>inferInstance) fun x y=>by
 simp only[oW,and_self,if_true,uR];congr 1;exact aB UInt64.toNat_inj
def Jd{s t:T}{l m:List CK}(p:BZ s l)(q:BZ t m):BZ (CB s t) (l++m):=
 ⟨fun x y=> @decidable_of_iff _ (x.1=y.1∧x.2=y.2) ⟨fun h=>Prod.ext h.1 h.2,fun h=>by rw[h];exact⟨rfl,rfl⟩⟩ (have:=p.d x.1 y.1;have:=q.d x.2 y.2;inferInstance),fun{P Q H G c c' x y} ⟨c1,d1,e1,h1,g1⟩ ⟨c2,d2,e2,h2,g2⟩=>by
  rw[e1,e2,lQ (p.h h1 h2) (q.h g1 g2)]
  congr 1
  rw[Bool.eq_iff_iff]
  simp only[Bool.and_eq_true,decide_eq_true_eq]
  exact⟨fun h=>Prod.ext h.1 h.2,fun h=>by rw[h];exact⟨rfl,rfl⟩⟩⟩
def RL{t:T}{l:List CK}{β:Type}{f:β→t.α}{g:t.α→β}{hfg: ∀y,f (g y)=y}(p:BZ t l)(d:(x y:β)→Decidable (x=y))(hi: ∀x y,f x=f y→x=y):BZ (OF t β f g hfg) l:=
 ⟨d,fun{P Q H G c c' x y} h1 h2=>by
  have:=p.h (x:=f x) (y:=f y) h1 h2
  rw[this]
  congr 1
  exact aB ⟨hi x y,fun h=>by rw[h]⟩⟩
def yD(l:List CK):Nat→List CK
 |0=>[]
 |n+1=>l++yD l n
theorem BZ.all{t:T}{l:List CK}(p:BZ t l){P Q:Nat→Prop}{H G:Av}: ∀{c c':List (List AV)} {x y:List t.α},x.length=y.length→C1 t P H c x→C1 t Q G c' y→ ∃q,KD (yD l x.length) c.flatten c'.flatten=some q∧(q=true↔x=y):=by
 intro c
 induction c with
 |nil=>
  intro c' x y hl h1 h2
  match x,h1 with
  |[],_=>
   match c',y,h2,hl with
   |[],[],_,_=>exact⟨true,rfl,by simp⟩
   |_::_,_::_,_,hl=>simp at hl
 |cons a c ih=>
  intro c' x y hl h1 h2
  match x,h1 with
  |u::x,h1=>
   match c',y,h2 with
   |[],[],_=>simp at hl
   |a'::c',v::y,h2=>
    obtain⟨q,e,hq⟩:=ih (by simpa using hl) h1.2 h2.2
    refine⟨_,by rw[List.length_cons,yD,List.flatten_cons,List.flatten_cons];exact lQ (p.h h1.1 h2.1) e,?_⟩
    simp only[Bool.and_eq_true,decide_eq_true_eq,hq,List.cons.injEq]
def DT{t:T}{l:List CK}(n:Nat)(p:BZ t l):BZ (A2 n t) (yD l n):=
 ⟨fun(x y:Ar t.α n)=> @decidable_of_iff _ (x.l=y.l) ⟨fun h=>Ar.ext h,fun h=>by rw[h]⟩ (have:DecidableEq t.α:=p.d;inferInstance),fun{P Q H G c c' x y} ⟨cs,e,h⟩ ⟨ds,e',h'⟩=>by
  obtain⟨q,hq,hi⟩:=p.all (x.len.trans y.len.symm) h h'
  rw[x.len]at hq
  rw[e,e',hq]
  congr 1
  exact dec_of (hi.trans ⟨fun h=>Ar.ext h,fun h=>by rw[h]⟩)⟩
section
variable{tb:CD}{Γ:Cx}{a b:AO}
theorem M1{t:T}{l l':List CK}{x y:t.α}{neg:Bool}(p:BZ t l)(ht:t.agg=true)(hl:l'=l)(ha:Cv tb Γ a (.val t x))(hb:Cv tb Γ b (.val t y)):Fi tb Γ (.eq neg (.agg l') a b) (some (if neg then !(@decide (x=y) (p.d x y))else @decide (x=y) (p.d x y))) fun z=> .val T.b z:=by
 rintro E rv fp f H R z ⟨⟩
 subst hl
 rcases ha E rv fp f H R with ⟨_,c,e,r⟩|⟨e,_⟩
 ·rcases hb E rv fp f H R with ⟨_,c',e',r'⟩|⟨e',_⟩
  ·exact⟨_,none,by simp only[Bo,e,e',Wk,p.h r r',Option.map_some,val],rfl,FK.2 rfl⟩
  ·rw[ht]at e';cases e'
 ·rw[ht]at e;cases e
theorem h_eqb{x y:Bool}{neg:Bool}(ha:Cv tb Γ a (.val T.b x))(hb:Cv tb Γ b (.val T.b y)):Fi tb Γ (.eq neg (.one .b) a b) (some (if neg then !decide (x=y)else decide (x=y))) fun z=> .val T.b z:=by
 rintro E rv fp f H R z ⟨⟩
 have h:oW .b (.b x) (.b y)=some (decide (x=y)):=by cases x<;>cases y<;>rfl
 exact⟨_,none,by simp only[Bo,FK.1 (ha E rv fp f H R),FK.1 (hb E rv fp f H R),Wk,h,Option.map_some,val],rfl,FK.2 rfl⟩
theorem Ii{s t:T}{x:s.α}{y:t.α}{n j o o' m k N:Nat}{ps:List (Nat×AJ)}(F:AL s (A2 n t) o')(hk:k=t.sz)(ha:Cv tb Γ a (.cp j (o+m*t.sz)))(hb:Cv tb Γ b (.val t y))(hj:AG Γ.ss j=some (.cells ps))(hp:It ps o=some (N, .val s x,o')):
  WG tb Γ none (.st k a b) (if m<n then some (F.put x ((F.get x).set m y))else none) fun x'=>Γ.setS j (.cells (TS ps o (.val s x'))):=by
 intro E rv fp f H R x' hx'
 split at hx'
 ·rename_i hlt
  cases hx'
  obtain⟨l,id,e,hv⟩:=ha E rv fp f H R
  obtain⟨cs,h0,h2,h3⟩:=F2 R hj e
  obtain⟨b',c,e0,e1,e2,e3,e4,e5,e6⟩:=Fb h3 hp
  let G:=JF F (AL.at n t m hlt)
  have hle:=G.le
  have hl:=s.len e4
  have hy:=T.V.cells (hb E rv fp f H R)
  have hyl:=t.len hy
  have hput:=G.putR e4 hy
  have hpr:=e6 (o'+m*t.sz) (cellsOf (eval tb f b)) (.val s (G.put x y)) (by omega) hput
  rw[show b'+(o'+m*t.sz)=o+m*t.sz by omega]at hpr
  have hmen:=PR.men R.ltP R.rvlt h3
  have hym:=t.men hy R.ltP
  subst hk
  have hlt':=(R.fplt j id l ((h0 id).2 rfl)).1
  obtain⟨rv',fp',_,_,R'⟩:=R.set (j:=j) (S:= .cells (TS ps o (.val s (G.put x y)))) (v:=rv j) (o:= .cells (DJ H id) (Bq cs (o+m*t.sz) (cellsOf (eval tb f b)))) (by rw[hj];rfl) l h0 (by simp only[DI];exact MX hmen hym) rfl (R.rvlt j l) (.inl rfl) (R.scal j l) fun rv' fp' e1 e2 hP hs=>
   ⟨id,_,by rw[e1,e],e2,by simp[BO,hlt'],PR.mono hP (by simp) (fun p _=>hs p.2 (.inl rfl)) hpr⟩
  refine⟨.junk,some (H.set id (B5.cells (DJ H id) (Bq cs (o+m*t.sz) (cellsOf (eval tb f b))))),?_,rv',fp',R'⟩
  simp only[Bo,hv,store,h2,Option.bind_some]
  rw[if_pos ⟨hyl,by omega⟩]
  rfl
 ·cases hx'
theorem Hk{s t:T}{x:s.α}{n j o o' N m:Nat}{ag:Bool}{ps:List (Nat×AJ)}(h:B3 Γ.ts n=some (.cp j o))(hj:AG Γ.ss j=some (.cells ps))(hp:It ps o=some (N, .val s x,o'))(F:AL s t o')(hag:ag=t.agg)(hm:m=t.sz):Aa6 Γ (.cell ag m n) t (F.get x):=by
 intro E rv fp f H R r vs hr
 obtain⟨v,u,h1,_,h3⟩:=A1 (tb:=⟨fun _=>none,fun _=>none,fun _=>none,[]⟩) (Af h) hj hp F hag hm E rv fp f H R () rfl
 refine⟨v,?_,h3⟩
 simp only[Bo,eval,val]at h1
 obtain⟨w,hw,e⟩:=Option.map_eq_some_iff.1 h1
 cases e
 simp only[results,hw,Option.bind_some,hr,Option.map_some]
theorem M_bls{t:T}{zero:List (List AV)}{d t0 sz n:Nat}{ps:List (Nat×AO)}{l:List t.α}(j:Nat)(hs:sz=t.sz)(hz:zero=List.replicate n t.zc)(h:kF tb Γ t ps (List.replicate n t.z) l)(hj:AG Γ.ss j=none):
  WG tb Γ (some d) (.bls t0 sz zero ps) (some l) fun l=>⟨(d, .own j)::Γ.ts,(j, .row t (.mk l))::Γ.ss⟩:=by
 intro E rv fp f H R l' hl'
 cases hl'
 subst hz hs
 obtain⟨ds,h1,h2⟩:=h.spec R (C1.rep (t.hz _ _) n)
 have hm:=h2.men R.ltP
 obtain⟨rv',fp',g1,g2,g3⟩:=R.more (j:=j) (S:= .row t (.mk l)) (v:= .orow H.length ds.length 0 ds.length) (o:= .row (some t0) false t.sz ds) (GO hj) (by simp only[DI];omega) rfl (by simp[Bz]) rfl fun rv' fp' e1 e2 hP hs=>
  ⟨_,ds,e1,e2,by simp[rowAt],h2.mono hP⟩
 exact⟨.orow H.length ds.length 0 ds.length,some (H++[B5.row (some t0) false t.sz ds]),by simp only[Bo,h1,Option.map_some],rv',fp',g3.push (φ:= .own j) ⟨g2,g1.symm⟩⟩
end
def look{α:Type}(n:Nat):List (Nat×α)→Option α
 |[]=>none
 |(k,v)::r=>if Nat.beq n k then some v else look n r
theorem Ox{α:Type}{n:Nat}{v:α}: ∀{l:List (Nat×α)},look n l=some v→(n,v)∈l
 |[],h=>by simp[look]at h
 |(k,u)::r,h=>by
  simp only[look]at h
  split at h
  ·rename_i e
   obtain rfl:=Option.some.inj h
   obtain rfl:=Nat.eq_of_beq_eq_true e
   exact List.mem_cons_self
  ·exact List.mem_cons_of_mem _ (Ox h)
theorem kA{tb:CD}{g:Nat}{f:List UInt8→UInt8→Int}(hp:tb.prim g=some (cD f)):Spec tb g [A5,T.u8] [T.int .i64] fun a=>some (f a.1 a.2):=by
 rintro P h args ⟨x,y⟩ _ _ ⟨v,q,rfl,h1,w,rfl,h2⟩ r hr
 cases hr
 refine⟨_,none,?_,rfl,[.i .i64 (f x y)],rfl,_,rfl,BK.2 rfl⟩
 have hy: ∀z:UInt8,UInt8.ofNat ((z.toNat:Int)).toNat=z:=fun z=>by simp
 rw[DV.1 h1,SY.1 h2]
 simp only[Bs,hp,cD,vG,OD,Option.bind_some]
 show some (AV.i .i64 (f x (UInt8.ofNat ((UInt8.toNat y:Nat):Int).toNat)),none)=_
 exact congrArg (fun c:UInt8=>(some (AV.i .i64 (f (show AR from x) c),(none:Option Av)))) (hy (show UInt8 from y))
end Go.Proofs.YtobejhpigbllpaaGreatDoor.Am
namespace Go.Proofs.YtobejhpigbllpaaGreatDoor.Am
def zG:AV→Bool
 | .ptr _ _=>true
 | .pe _ _ _ _=>true
 |_=>false
def RefR(t:T)(P:Nat→Prop)(H:Av)(cs:List AV):Option t.α→Prop
 |none=>cs=[.nilp]
 |some y=> ∃v,cs=[v]∧zG v=true∧XD t P H v y
theorem XD.cut{t:T}{P Q:Nat→Prop}{H:Av}{v:AV}{y:t.α}{n:Nat}(hv:zG v=true)(h:XD t P H v y)(hm:Bz v≤n)(hw:Cw (H.take n)≤n)(hp: ∀i,P i→i<n→Q i):XD t Q (H.take n) v y:=by
 obtain⟨h1,cs,off,h2,h3,h4,_⟩:=h
 cases v<;>simp only[zG,Bool.false_eq_true]at hv
 ·rename_i id o
  simp only[Bz]at hm
  simp only[TT]at h1
  simp only[place]at h2
  obtain⟨c,hc,e⟩:=Option.map_eq_some_iff.1 h2
  cases e
  refine⟨hp _ h1 (by omega),cs,off,by simp only[place];rw[Ns (by omega),hc];rfl,h3,t.cut h4 ?_ hw hp,fun m hq=> ?_⟩
  ·have:=R1 hw (by omega) hc
   exact Nat.le_trans (J0 _ _) (Nat.le_trans (HY _ _) this)
  ·simp only[Bz];exact hq _ (hp _ h1 (by omega))
 ·rename_i id n' i o
  simp only[Bz]at hm
  simp only[TT]at h1
  simp only[place]at h2
  obtain⟨r,hr,h2⟩:=Option.bind_eq_some_iff.1 h2
  split at h2
  ·rename_i hn
   cases h2
   refine⟨hp _ h1 (by omega),_,_,by simp only[place];rw[PY (by omega),hr,Option.bind_some,if_pos hn],h3,t.cut h4 ?_ hw hp,fun m hq=> ?_⟩
   ·have:=Vk hw (by omega) hr
    have h5: ∀(l:List (List AV)) (i:Nat),C4 (l.drop i)≤C4 l:=by
     intro l
     induction l with
     |nil=>intro i;simp
     |cons x l ih=>
      intro i
      cases i with
      |zero=>exact Nat.le_refl _
      |succ i=>simp only[List.drop_succ_cons,C4];have:=ih i;omega
    have h6:=h5 r.2.2 n'
    rw[←MY]at h6
    exact Nat.le_trans (J0 _ _) (Nat.le_trans (HY _ _) (by omega))
   ·simp only[Bz];exact hq _ (hp _ h1 (by omega))
  ·cases h2
def gE(t:T):T where
 α:=Option t.α
 sz:=1
 agg:=false
 dep:=21
 R:=RefR t
 zc:=[.nilp]
 z:=none
 hz:=fun _ _=>rfl
 one:=fun _=>rfl
 len:=fun{_ _ _ x} h=>by
  cases x with
  |none=>rw[show _=[AV.nilp]from h];rfl
  |some y=>obtain⟨v,e,_⟩:=h;rw[e];rfl
 sca:=fun{_ _ _ x} h=>by
  cases x with
  |none=>rw[show _=[AV.nilp]from h];rfl
  |some y=>obtain⟨v,e,hv,_⟩:=h;rw[e];cases v<;>simp only[zG,Bool.false_eq_true]at hv<;>rfl
 men:=fun{_ _ _ x m} h hp=>by
  cases x with
  |none=>rw[show _=[AV.nilp]from h];simp[Bc,Bz]
  |some y=>obtain⟨v,e,_,_,_,_,_,_,_,hm⟩:=h;rw[e];simpa [Bc]using hm m hp
 mono:=fun{_ _ _ _ _ x} m h=>by
  cases x with
  |none=>exact h
  |some y=>obtain⟨v,e,hv,k⟩:=h;exact⟨v,e,hv,k.mono m⟩
 cut:=fun{_ _ _ _ x _} h hm hw hp=>by
  cases x with
  |none=>exact h
  |some y=>obtain⟨v,e,hv,k⟩:=h;exact⟨v,e,hv,k.cut hv (by rw[e]at hm;simpa [Bc]using hm) hw hp⟩
 frz:=fun _ hd h20 _ _=>by omega
section
variable{tb:CD}{Γ:Cx}{a b:AO}
theorem nil_rp{t:T}{x:t.α}{P:Nat→Prop}{H:Av}{v:AV}{cl:Nat→List AV→Av→JG}{rho:AO→AV}(e:rho a=v)(h:XD t P H v x):Bo tb cl rho H (.nilc a)=some (v,none):=by
 have:=h.1
 cases v<;>simp only[TT]at this<;>simp only[Bo,e]
theorem h_nilR{t:T}{x:Option t.α}(ha:Cv tb Γ a (.val (gE t) x)):Fi tb Γ (.nilc a) x fun y=> .rp t y:=by
 rintro E rv fp f H R y rfl
 rcases ha E rv fp f H R with ⟨h,_⟩|⟨_,v,e,hv,h⟩
 ·cases h
 ·cases e
  exact⟨_,none,nil_rp rfl h,rfl,h⟩
def T.Flat(t:T):Prop:= ∀{P Q:Nat→Prop} {H G:Av} {cs:List AV} {x:t.α},t.R P H cs x→t.R Q G cs x
theorem flat_b:T.b.Flat:=fun h=>h
theorem eD{k:IntKind}:(T.int k).Flat:=fun h=>h
theorem uP:T.u64.Flat:=fun h=>h
theorem O7:A5.Flat:=fun h=>h
theorem T.Flat.V{t:T}(h:t.Flat){P Q:Nat→Prop}{H G:Av}{v:AV}{x:t.α}(r:t.V P H v x):t.V Q G v x:=by
 rcases r with ⟨a,cs,e,r⟩|⟨a,r⟩
 ·exact .inl ⟨a,cs,e,h r⟩
 ·exact .inr ⟨a,h r⟩
inductive RK:List T→Prop where
 |nil:RK []
 |cons {t:T} {l:List T}:t.Flat→RK l→RK (t::l)
theorem TF.flat{P Q:Nat→Prop}{H G:Av}: ∀{l:List T} {vs:List AV} {x:Ce l},RK l→TF P H l vs x→TF Q G l vs x
 |[],_,_,_,h=>h
 |[a],_,_, .cons k _,⟨v,e,h⟩=>⟨v,e,k.V h⟩
 |_::_::_,_,_, .cons k l,⟨v,q,e,h,g⟩=>⟨v,q,e,k.V h,TF.flat l g⟩
def wJ(tb:CD)(Γ:Cx)(a:AO)(t:T)(x:t.α):Prop:= ∀E rv fp f H,Bm E Γ rv fp f H→t.V (fun i=>i<H.length) H (eval tb f a) x
theorem a_v{t:T}{x:t.α}(h:Cv tb Γ a (.val t x)):wJ tb Γ a t x:=fun E rv fp f H R=>T.V.mono (fun i hi=>⟨Pf.lt R.le hi,rfl⟩) (h E rv fp f H R)
theorem a_p{t:T}{x:t.α}{j o N:Nat}{ps:List (Nat×AJ)}(ha:Cv tb Γ a (.cp j o))(hj:AG Γ.ss j=some (.cells ps))(hp:It ps o=some (N, .val t x,0)):wJ tb Γ a (gE t) (some x):=by
 intro E rv fp f H R
 obtain⟨l,id,e,hv⟩:=ha E rv fp f H R
 obtain⟨cs,h0,h2,h3⟩:=F2 R hj e
 obtain⟨b',c,e0,e1,e2,e3,e4,e5,_⟩:=Fb h3 hp
 have hlen:=t.len e4
 have hlt:=(R.fplt j id l ((h0 id).2 rfl)).1
 have hs:=e5 0 t.sz (by omega)
 rw[Nat.add_zero]at e1 hs
 subst e1
 have hc:sub c 0 t.sz=c:=by simp only[sub,List.drop_zero];exact List.take_of_length_le (by omega)
 rw[hc]at hs
 refine .inr ⟨rfl,_,rfl,by rw[hv];rfl,?_⟩
 rw[hv]
 refine⟨hlt,cs,o,by simp only[place,h2,Option.map_some],by omega,by rw[hs];exact t.mono (fun i hi=>⟨Pf.lt R.le hi,rfl⟩) e4,fun m hm=> ?_⟩
 simp only[Bz]
 exact hm _ hlt
inductive XF(tb:CD)(Γ:Cx):(As:List T)→List AO→Ce As→Prop where
 |one {a:AO} {t:T} {x:t.α} (h:wJ tb Γ a t x):XF tb Γ [t] [a] x
 |cons {a:AO} {t u:T} {x:t.α} {As:List T} {l:List AO} {y:Ce (u::As)} (h:wJ tb Γ a t x) (k:XF tb Γ (u::As) l y):XF tb Γ (t::u::As) (a::l) (x,y)
theorem XF.spec{E:Oc}{rv:Nat→AV}{fp:Fp}{f:Fr}{H:Av}(R:Bm E Γ rv fp f H): ∀{As:List T} {l:List AO} {x:Ce As},XF tb Γ As l x→TF (fun i=>i<H.length) H As (l.map (eval tb f)) x
 |_,_,_, .one h=>⟨_,rfl,h E rv fp f H R⟩
 |_,_,_, .cons h k=>⟨_,_,rfl,h E rv fp f H R,k.spec R⟩
theorem lK{g:Nat}{As Rs:List T}{F:Ce As→Option (Ce Rs)}{l:List AO}{x:Ce As}(sp:Spec tb g As Rs F)(fl:RK Rs)(hx:XF tb Γ As l x):Fi tb Γ (.call g l) (F x) fun r=>rE Rs r:=by
 intro E rv fp f H R r hr
 obtain⟨v,u,h1,h2,vs,h3,h4⟩:=(sp (fun i=>i<H.length) H _ x (fun _ h=>h) R.wf (hx.spec R) r hr).call
 exact⟨v,u,by simp only[Bo];exact h1,h2,Vu ⟨vs,h3,h4.flat fl⟩⟩
theorem uF{g:Nat}{As:List T}{t:T}{F:Ce As→Option (Ce [t])}{l:List AO}{x:Ce As}(sp:Spec tb g As [t] F)(fl:RK [t])(hx:XF tb Γ As l x):Fi tb Γ (.call g l) (F x) fun r:t.α=> .val t r:=lK sp fl hx
end
end Go.Proofs.YtobejhpigbllpaaGreatDoor.Am
namespace Go.Proofs.YtobejhpigbllpaaGreatDoor.Am
def WL:Dom where
 α:=AR×Nat
 R:=fun F _ H v x=> ∃id,v= .ptr id 0∧(∀i,F i↔i=id)∧H[id]? =some (.iter x.1 x.2)
 lt:=fun⟨id,_,hF,h⟩ i hi=>by rw[(hF i).1 hi];exact(List.getElem?_eq_some_iff.1 h).1
 men:=fun⟨id,e,hF,_⟩ _ hm=>by rw[e];simp only[Bz];exact hm id ((hF id).2 rfl)
 mono:=fun _ g ⟨id,e,hF,h⟩=>⟨id,e,hF,by rw[g id ((hF id).2 rfl)];exact h⟩
def Et(s:AR)(pos:Nat):Int×Nat:=((Utf8.decode ⟨s.toArray⟩ pos).1,(Utf8.decode ⟨s.toArray⟩ pos).2)
section
variable{tb:CD}{Γ:Cx}{a b:AO}
theorem sY{x:UInt8}(h:Cv tb Γ a (.val T.u8 x)):Cv tb Γ a (.val (T.int .u8) (x.toNat:Int)):=fun E rv fp f H R=>BK.2 (SY.1 (h E rv fp f H R))
theorem o_n16{x:UInt16}(h:Cv tb Γ a (.val T.u16 x)):Cv tb Γ a (.val (T.int .u16) (x.toNat:Int)):=fun E rv fp f H R=>BK.2 (aN.1 (h E rv fp f H R))
theorem Ll{x:UInt32}(h:Cv tb Γ a (.val T.u32 x)):Cv tb Γ a (.val (T.int .u32) (x.toNat:Int)):=fun E rv fp f H R=>BK.2 (aM.1 (h E rv fp f H R))
theorem M_rng{s:AR}{d:Nat}(j:Nat)(hj:AG Γ.ss j=none)(ha:Cv tb Γ a (.val A5 s)):WG tb Γ (some d) (.rng a) (some ()) fun _=>⟨(d, .own j)::Γ.ts,(j, .dom WL (s,0))::Γ.ss⟩:=by
 rintro E rv fp f H R _ ⟨⟩
 obtain⟨rv',fp',h1,h2,h3⟩:=R.more (j:=j) (S:= .dom WL (s,0)) (v:= .ptr H.length 0) (o:= .iter s 0) (GO hj) (by simp[DI]) rfl (by simp[Bz]) rfl fun rv' fp' e1 e2 hP hs=>
  ⟨_,e1,e2,by simp⟩
 refine⟨.ptr H.length 0,some (H++[B5.iter s 0]),by simp only[Bo,DV.1 (ha E rv fp f H R)],rv',fp',h3.push (d:=d) (φ:= .own j) ⟨h2,h1.symm⟩⟩
variable{ks:List Kf}{ρ:Type}{Q:Lf ρ}
def Aa.nxt{s:AR}{pos j d:Nat}{rest:List AQ}(ha:Cv tb Γ a (.own j))(hj:AG Γ.ss j=some (.dom WL (s,pos)))
  (k1:(x:Int×Nat)→Aa tb ⟨(d, .tup [⟨T.b,true⟩,⟨T.int .i64,((pos:Nat):Int)⟩,⟨T.int .i32,x.1⟩])::Γ.ts,(j, .dom WL (s,pos+x.2))::Γ.ss⟩ (rg false rest) ks Q)
  (k2:Aa tb ⟨(d, .tup [⟨T.b,false⟩])::Γ.ts,Γ.ss⟩ (rg false rest) ks Q):Aa tb Γ (rg false (⟨some d,none, .nxt a⟩::rest)) ks Q:=
 ⟨if pos<s.length then(k1 (Et s pos)).m else k2.m,fun E f H ⟨rv,fp,I⟩ r hr=>by
  have hl:AX Γ.ss j:=Kj hj rfl
  obtain⟨_,hv⟩:=ha E rv fp f H I
  obtain⟨id,e,hF,hH⟩:=I.slots j _ hj
  rw[e]at hv
  have hi:VK H id=some (s,pos):=by simp only[VK,hH]
  split at hr
  ·rename_i hp
   obtain⟨rv',fp',h1,h2,h3⟩:=I.set (j:=j) (S:= .dom WL (s,pos+(Et s pos).2)) (v:=rv j) (o:= .iter s (pos+(Et s pos).2)) (by rw[hj];rfl) hl hF (by simp[DI]) rfl (I.rvlt j hl) (.inl rfl) (I.scal j hl)
    fun rv' fp' e1 e2 hP _=>⟨id,by rw[e1,e],e2,by rw[List.getElem?_set_self (I.fplt j id hl ((hF id).2 rfl)).1]⟩
   have hx:Bo tb (BW tb) (eval tb f) H (.nxt a)=some (.tup [.b true, .i .i64 pos, .i .i32 (Et s pos).1],some (H.set id (B5.iter s (pos+(Et s pos).2)))):=by
    simp only[Bo,hv,hi,Option.bind_some,if_true,if_pos hp];rfl
   obtain⟨e',f',H',h4,h5⟩:=(k1 (Et s pos)).ok E _ _ ⟨rv',fp',h3.push (d:=d) (φ:= .tup [⟨T.b,true⟩,⟨T.int .i64,((pos:Nat):Int)⟩,⟨T.int .i32,(Et s pos).1⟩])
    ⟨[.b true, .i .i64 pos, .i .i32 (Et s pos).1],rfl,FK.2 rfl,BK.2 rfl,BK.2 rfl,trivial⟩⟩ r hr
   exact⟨e',f',H',by rw[Ji hx];exact h4,h5⟩
  ·rename_i hp
   have hx:Bo tb (BW tb) (eval tb f) H (.nxt a)=some (.tup [.b false],none):=by
    simp only[Bo,hv,hi,Option.bind_some,if_true,if_neg hp]
   obtain⟨e',f',H',h4,h5⟩:=k2.ok E _ H ⟨rv,fp,I.push (d:=d) (φ:= .tup [⟨T.b,false⟩]) ⟨[.b false],rfl,FK.2 rfl,trivial⟩⟩ r hr
   exact⟨e',f',H',by rw[Ji hx];exact h4,h5⟩⟩
def YK{x y:AC}(h:Cv tb Γ a (.val T.b true))(s:Aa tb Γ x ks Q):Aa tb Γ (.cond a x y) ks Q:=
 ⟨s.m,fun E f H ⟨rv,fp,I⟩ r hr=>by
  have hv:=FK.1 (h E rv fp f H I)
  obtain⟨e,f',H',h4,h5⟩:=s.ok E f H ⟨rv,fp,I⟩ r hr
  exact⟨e,f',H',by simp only[AS,hv,if_true];exact h4,h5⟩⟩
def YL{x y:AC}(h:Cv tb Γ a (.val T.b false))(s:Aa tb Γ y ks Q):Aa tb Γ (.cond a x y) ks Q:=
 ⟨s.m,fun E f H ⟨rv,fp,I⟩ r hr=>by
  have hv:=FK.1 (h E rv fp f H I)
  obtain⟨e,f',H',h4,h5⟩:=s.ok E f H ⟨rv,fp,I⟩ r hr
  exact⟨e,f',H',by simp only[AS,hv,Bool.false_eq_true,if_false];exact h4,h5⟩⟩
end
end Go.Proofs.YtobejhpigbllpaaGreatDoor.Am
namespace Go.Proofs.YtobejhpigbllpaaGreatDoor.Am
def Pd:Hj→Bool
 | .mv _=>true
 | .pick _ _ _=>true
 | .bld _ _=>true
 | .bll _ _ _=>true
 | .fa _ _=>true
 | .nilc _=>true
 | .bin _ _ _=>true
 | .eq _ _ _ _=>true
 | .un _ _=>true
 | .cvi _ _=>true
 | .cvid _=>true
 | .cvc _=>true
 | .mkf _ _ _=>true
 | .sls _ _ _=>true
 | .fld _ _ _ _=>true
 | .iaa _ _ _ _=>true
 | .ixa _ _ _ _ _=>true
 | .ixs _ _=>true
 | .ext _ _=>true
 | .mkif _ _=>true
 | .len _=>true
 | .lens _=>true
 | .mnx _ _ _=>true
 | .isni _ _=>true
 | .capn _=>true
 |_=>false
structure U1 where
 ag:Bool
 n:Nat
 t:Nat
 v:AV
 c:Nat
def O5(d:Option Nat):List U1→Bool
 |[]=>true
 |m::r=>(match d with|some d=> !Nat.beq d m.t|none=>true)&&O5 d r
def aC:List U1→List U1
 |[]=>[]
 |m::r=>match m.c with
  |0=>aC r
  |1=>aC r
  |c+2=>{m with c:=c+1}::aC r
def Qb(N k lo hi:Nat)(o:Hj):Bool:=(Nat.beq lo k&&Nat.beq hi k)||(Pd o&&Nat.ble hi N)
def jZ(N k lo hi:Nat)(o:Hj)(v:AV)(ms:List U1):List U1:=
 bif Qb N k lo hi o then ms else match o with
  | .ld ag n (.t t)=>⟨ag,n,t,v,hi-k⟩::ms
  |_=>ms
def lA(N k lo hi:Nat)(d:Option Nat):Hj→Bool
 | .ld _ _ (.t t)=>Nat.beq lo k&&Nat.ble hi N&&(match d with|some d=> !Nat.beq d t|none=>true)
 |_=>false
structure pR where
 ag:Bool
 n:Nat
 a:AV
 v:AV
 lo:Nat
def FM(tb:CD)(cl:Nat→List AV→Av→JG)(N:Nat):Nat→List U1→List pR→List AQ→List (Option (Nat×Nat))→Fr→Av→Fr×Av→Prop
 |k,_,_,[],[],f,h,p=>k=N∧p=(f,h)
 |k,ms,es,⟨d,g,o⟩::l,none::w,f,h,p=>(wanted f g=some true∧ ∃q es',Bo tb cl (eval tb f) h o=some q∧O5 d ms=true∧
   (∀m∈ms,0<m.c→Bo tb cl (eval tb (put f d q.1)) (q.2.getD h) (.ld m.ag m.n (.t m.t))=some (m.v,none))∧
   (∀e∈es',(e∈es∨e.lo=k)∧load h e.ag e.n e.a=some e.v)∧FM tb cl N (k+1) (aC ms) es' l w (put f d q.1) (q.2.getD h) p)∨
   (wanted f g=some false∧ms=[]∧FM tb cl N (k+1) [] [] l w (put f d (.tup [])) h p)
 |k,ms,es,⟨d,g,o⟩::l,some (lo,hi)::w,f,h,p=>(wanted f g=some true∧ ∃q,Bo tb cl (eval tb f) h o=some q∧q.2.getD h=h∧O5 d ms=true∧
   (((Qb N k lo hi o||lA N k lo hi d o)=true∧FM tb cl N k (jZ N k lo hi o q.1 ms) es l w (put f d q.1) h p)∨
    (hi=k∧(∃e∈es,∃t,o= .ld e.ag e.n (.t t)∧get f t=e.a∧q.1=e.v∧e.lo≤lo)∧FM tb cl N k ms es l w (put f d q.1) h p)))∨
   (wanted f g=some false∧O5 d ms=true∧FM tb cl N k ms es l w (put f d (.tup [])) h p)
 |_,_,_,_,_,_,_,_=>False
section
variable{tb:CD}{cl:Nat→List AV→Av→JG}
theorem pJ{o:Hj}(ho:Pd o=true){rho:AO→AV}{h h':Av}:Bo tb cl rho h o=Bo tb cl rho h' o:=by
 cases o<;>first|(simp only[Pd,Bool.false_eq_true]at ho;done)|rfl
theorem Gf{x:Option AV}{p:AV×Option Av}(e:val x=some p):p.2=none:=by
 obtain⟨v,_,rfl⟩:=Option.map_eq_some_iff.1 e;rfl
theorem map_none{α:Type}{x:Option α}{f:α→AV}{p:AV×Option Av}(e:x.map (fun a=>(f a,(none:Option Av)))=some p):p.2=none:=by
 obtain⟨v,_,rfl⟩:=Option.map_eq_some_iff.1 e;rfl
theorem bind_none{α:Type}{x:Option α}{f:α→JG}{p:AV×Option Av}(h: ∀a,f a=some p→p.2=none)(e:x.bind f=some p):p.2=none:=by
 obtain⟨v,_,e⟩:=Option.bind_eq_some_iff.1 e;exact h v e
theorem vS{o:Hj}(ho:Pd o=true){rho:AO→AV}{h:Av}{p:AV×Option Av}(e:Bo tb cl rho h o=some p):p.2=none:=by
 cases o<;>first|(simp only[Pd,Bool.false_eq_true]at ho;done)|skip
 case mv=>simp only[Bo,Option.some.injEq]at e;subst e;rfl
 case pick=>simp only[Bo]at e;split at e<;>first|(cases e;rfl)|cases e
 case bld=>exact Gf e
 case bll=>exact Gf e
 case nilc=>simp only[Bo]at e;split at e<;>first|(cases e;rfl)|cases e
 case bin=>exact Gf e
 case eq=>exact Gf e
 case un=>exact Gf e
 case cvi=>simp only[Bo]at e;split at e<;>first|(cases e;rfl)|cases e
 case cvid=>simp only[Bo]at e;split at e<;>first|(cases e;rfl)|cases e
 case cvc=>simp only[Bo]at e;split at e<;>first|(cases e;rfl)|cases e
 case mkf=>simp only[Bo,Option.some.injEq]at e;subst e;rfl
 case sls=>simp only[Bo]at e;split at e<;>first|exact map_none e|cases e
 case fa=>exact Gf e
 case fld=>simp only[Bo]at e;split at e<;>first|cases e|(split at e<;>first|exact Gf e|cases e)
 case iaa=>exact bind_none (fun a e=>by split at e<;>first|exact Gf e|cases e) e
 case ixa=>exact bind_none (fun a e=>by split at e<;>first|cases e|(split at e<;>first|exact Gf e|cases e)) e
 case ixs=>exact bind_none (fun a e=>by split at e<;>first|cases e|(split at e<;>first|exact map_none e|cases e)) e
 case ext=>simp only[Bo]at e;split at e<;>first|exact Gf e|cases e
 case mkif=>simp only[Bo,Option.some.injEq]at e;subst e;rfl
 case len=>exact map_none e
 case lens=>simp only[Bo]at e;split at e<;>first|(cases e;rfl)|cases e
 case isni=>simp only[Bo]at e;split at e<;>first|(cases e;rfl)|cases e
 case capn=>simp only[Bo]at e;split at e<;>first|(cases e;rfl)|cases e
 case mnx=>simp only[Bo]at e;split at e<;>first|cases e|(split at e<;>first|(cases e;rfl)|cases e)
theorem jV{o:Hj}(ho:Pd o=true){rho:AO→AV}{h h':Av}{p:AV×Option Av}(e:Bo tb cl rho h o=some p):Bo tb cl rho h' o=some (p.1,none):=by
 rw[pJ ho (h':=h),e]
 have:=vS ho e
 obtain⟨a,b⟩:=p
 simp only at this
 rw[this]
theorem J8{d:Option Nat}{f:Fr}{v:AV}: ∀{ms:List U1},O5 d ms=true→ ∀m∈ms,eval tb (put f d v) (.t m.t)=eval tb f (.t m.t)
 |[],_,m,hm=>by cases hm
 |q::r,h,m,hm=>by
  simp only[O5,Bool.and_eq_true]at h
  rcases List.mem_cons.1 hm with rfl|hm
  ·cases d with
   |none=>rfl
   |some d=>
    have:=h.1
    simp only[Bool.not_eq_true']at this
    simp only[eval,put,get]
    rw[if_neg fun e=>by rw[e,Nat.beq_refl]at this;cases this]
  ·exact J8 h.2 m hm
theorem Rb{f g:Fr}{h:Av}{ag:Bool}{n t:Nat}(e:eval tb f (.t t)=eval tb g (.t t)):Bo tb cl (eval tb f) h (.ld ag n (.t t))=Bo tb cl (eval tb g) h (.ld ag n (.t t)):=by
 simp only[Bo,e]
def wC(tb:CD)(cl:Nat→List AV→Av→JG)(f:Fr)(tl:List Av)(m:U1):Prop:= ∀i h',i<m.c→tl[i]? =some h'→Bo tb cl (eval tb f) h' (.ld m.ag m.n (.t m.t))=some (m.v,none)
theorem fQ: ∀{ms:List U1} {m:U1},m∈ms→1<m.c→{m with c:=m.c-1}∈aC ms
 |q::r,m,hm,hc=>by
  rcases List.mem_cons.1 hm with rfl|hm
  ·obtain⟨ag,n,t,v,c⟩:=m
   match c,hc with
   |c+2,_=>simp[aC]
  ·have:=fQ hm hc
   simp only[aC]
   split
   ·exact this
   ·exact this
   ·exact List.mem_cons_of_mem _ this
theorem vV{N k lo hi:Nat}{o:Hj}{v:AV}{ms:List U1}{m:U1}(h:m∈ms):m∈jZ N k lo hi o v ms:=by
 simp only[jZ]
 cases Qb N k lo hi o with
 |true=>exact h
 |false=>simp only[cond_false];split<;>simp[h]
theorem iL{N k lo hi:Nat}{d:Option Nat}{o:Hj}(h:lA N k lo hi d o=true): ∃ag n t,o= .ld ag n (.t t)∧lo=k∧hi≤N∧d≠some t:=by
 match o,h with
 | .ld ag n (.t t),h=>
  simp only[lA,Bool.and_eq_true]at h
  refine⟨ag,n,t,rfl,Nat.eq_of_beq_eq_true h.1.1,Nat.le_of_ble_eq_true h.1.2,?_⟩
  rintro rfl
  have:=h.2
  simp only[Nat.beq_refl,Bool.not_true,Bool.false_eq_true]at this
open Classical in
theorem K6{N:Nat}: ∀{l:List AQ} {k:Nat} {ms:List U1} {es:List pR} {w:List (Option (Nat×Nat))} {f:Fr} {h:Av} {f':Fr} {h':Av},FM tb cl N k ms es l w f h (f',h')→
  ∃tl,Hm tb cl l w f h=some (h::tl)∧(h::tl).getLast?=some h'∧k+tl.length=N∧(∀m∈ms,wC tb cl f tl m)∧ ∀(pre:List Av),pre.length=k→(∀e∈es,∀j g,e.lo≤j→pre[j]? =some g→load g e.ag e.n e.a=some e.v)→IC tb cl (pre++h::tl) l w k f=some f'
 |[],k,ms,es,w,f,h,f',h',e=>by
  cases w with
  |nil=>
   simp only[FM,Prod.mk.injEq]at e
   obtain⟨hk,rfl,rfl⟩:=e
   exact⟨[],by simp[Hm],rfl,by simpa using hk,fun m _ i h' _ hi=>by simp at hi,fun pre hp _=>by simp[IC,hp]⟩
  |cons=>simp[FM]at e
 |⟨d,g,o⟩::l,k,ms,es,[],f,h,f',h',e=>by simp[FM]at e
 |⟨d,gd,o⟩::l,k,ms,es,none::w,f,h,f',h',e=>by
  simp only[FM]at e
  rcases e with ⟨hwt,p,es',hp,hc1,hc2,hc3,e⟩|⟨hwt,rfl,e⟩
  rotate_left
  ·obtain⟨tl,h1,h2,h3,h4,h5⟩:=K6 e
   refine⟨h::tl,?_,?_,by simp;omega,(fun m hm=>absurd hm (by simp)),fun pre hpre hes=> ?_⟩
   ·simp[Hm,hwt,h1]
   ·simpa using h2
   ·have h6:=h5 (pre++[h]) (by simp[hpre]) (fun x hx=>absurd hx (by simp))
    simp only[List.append_assoc,List.singleton_append]at h6
    have g0:(pre++h::h::tl)[k]? =some h:=by rw[←hpre,List.getElem?_append_right (Nat.le_refl _),Nat.sub_self];rfl
    have g1:(pre++h::h::tl)[k+1]? =some h:=by rw[←hpre,List.getElem?_append_right (by omega),Nat.add_sub_cancel_left];rfl
    simp only[IC,hwt,Option.bind_some,Bool.false_eq_true,if_false,g0,g1,if_true]
    exact h6
  obtain⟨tl,h1,h2,h3,h4,h5⟩:=K6 e
  refine⟨p.2.getD h::tl,?_,?_,by simp;omega,?_,fun pre hpre hes=> ?_⟩
  ·simp[Hm,hwt,hp,h1]
  ·simpa using h2
  ·intro m hm i h' hi hg
   have he:=J8 (tb:=tb) (f:=f) (v:=p.1) hc1 m hm
   rw[Rb he.symm]
   cases i with
   |zero=>
    simp only[List.getElem?_cons_zero,Option.some.injEq]at hg
    subst hg
    exact hc2 m hm (by omega)
   |succ i=>
    simp only[List.getElem?_cons_succ]at hg
    exact h4 _ (fQ hm (by omega)) i h' (by simp only;omega) hg
  ·have h6:=h5 (pre++[h]) (by simp[hpre]) (fun x hx j g hj hg=>by
    rcases Nat.lt_or_ge j pre.length with hlt|hge
    ·rw[List.getElem?_append_left hlt]at hg
     rcases(hc3 x hx).1 with hx'|hx'
     ·exact hes x hx' j g hj hg
     ·omega
    ·rw[List.getElem?_append_right hge]at hg
     have:j-pre.length=0:=by
      rcases Nat.eq_zero_or_pos (j-pre.length)with h|h
      ·exact h
      ·rw[List.getElem?_eq_none (by simp;omega)]at hg;cases hg
     rw[this]at hg
     simp only[List.getElem?_cons_zero,Option.some.injEq]at hg
     subst hg
     exact(hc3 x hx).2)
   simp only[List.append_assoc,List.singleton_append]at h6
   have g0:(pre++h::p.2.getD h::tl)[k]? =some h:=by rw[←hpre,List.getElem?_append_right (Nat.le_refl _),Nat.sub_self];rfl
   have g1:(pre++h::p.2.getD h::tl)[k+1]? =some (p.2.getD h):=by rw[←hpre,List.getElem?_append_right (by omega),Nat.add_sub_cancel_left];rfl
   simp only[IC,hwt,Option.bind_some,if_true,g0,hp,g1]
   exact h6
 |⟨d,gd,o⟩::l,k,ms,es,some (lo,hi)::w,f,h,f',h',e=>by
  simp only[FM]at e
  rcases e with ⟨hwt,p,hp,hu,hfr,e⟩|⟨hwt,hfr,e⟩
  rotate_left
  ·obtain⟨tl,h1,h2,h3,h4,h5⟩:=K6 e
   refine⟨tl,?_,h2,h3,fun m hm i h' hi hg=> ?_,fun pre hpre hes=> ?_⟩
   ·simp[Hm,hwt,h1]
   ·have he:=J8 (tb:=tb) (f:=f) (v:= .tup []) hfr m hm
    rw[Rb he.symm]
    exact h4 m hm i h' hi hg
   ·have h6:=h5 pre hpre hes
    simp only[IC,hwt,Option.bind_some,Bool.false_eq_true,if_false]
    exact h6
  rcases e with ⟨hpl,e⟩|⟨hhi0,⟨x,hx,t0,hxo,hxa,hxv,hxl⟩,e⟩
  ·obtain⟨tl,h1,h2,h3,h4,h5⟩:=K6 e
   have hms: ∀m∈ms,wC tb cl f tl m:=fun m hm i h' hi hg=>by
    have he:=J8 (tb:=tb) (f:=f) (v:=p.1) hfr m hm
    rw[Rb he.symm]
    exact h4 m (vV hm) i h' hi hg
   refine⟨tl,?_,h2,h3,hms,fun pre hpre hes=> ?_⟩
   ·simp[Hm,hwt,hp,hu,h1]
   ·have h6:=h5 pre hpre hes
    have g0:(pre++h::tl)[k]? =some h:=by rw[←hpre,List.getElem?_append_right (Nat.le_refl _),Nat.sub_self];rfl
    have hlen:(pre++h::tl).length=N+1:=by simp[hpre];omega
    have hk: ∀j,lo≤j→j<lo+(hi+1-lo)→ ∃u,((pre++h::tl)[j]?).bind (fun h=>Bo tb cl (eval tb f) h o)=some (p.1,u)∧some (u.getD ((pre++h::tl)[j]?.getD []))=(pre++h::tl)[j]? :=by
     intro j hj1 hj2
     simp only[Bool.or_eq_true]at hpl
     cases hP:Qb N k lo hi o with
     |true=>
      have hP':=hP
      simp only[Qb,Bool.or_eq_true,Bool.and_eq_true]at hP'
      rcases hP' with ⟨hlo,hhi⟩|⟨hb,hle⟩
      ·have hlo:=Nat.eq_of_beq_eq_true hlo
       have hhi:=Nat.eq_of_beq_eq_true hhi
       obtain rfl:j=k:=by omega
       exact⟨p.2,by rw[g0,Option.bind_some,hp],by rw[g0];simp[hu]⟩
      ·have hle:=Nat.le_of_ble_eq_true hle
       have hj:j<(pre++h::tl).length:=by omega
       rw[List.getElem?_eq_getElem hj]
       exact⟨none,by rw[Option.bind_some];exact jV hb hp,rfl⟩
     |false=>
      have hL:lA N k lo hi d o=true:=hpl.resolve_left (by rw[hP];simp)
      obtain⟨ag,n,t,rfl,hlo,hhi,hd⟩:=iL hL
      have hp2:p.2=none:=Gf hp
      rcases Nat.lt_or_ge k j with hkj|hkj
      ·have hm:(⟨ag,n,t,p.1,hi-k⟩:U1)∈jZ N k lo hi (.ld ag n (.t t)) p.1 ms:=by
        simp only[jZ,hP,cond_false];simp
       have hj:j<(pre++h::tl).length:=by omega
       have hjt:(pre++h::tl)[j]? =tl[j-k-1]? :=by
        rw[List.getElem?_append_right (by omega),hpre,show j-k=(j-k-1)+1 by omega,List.getElem?_cons_succ];rfl
       have hjl:j-k-1<tl.length:=by simp[hpre]at hlen;omega
       rw[hjt,List.getElem?_eq_getElem hjl]
       have:=h4 _ hm (j-k-1) _ (by simp only;omega) (List.getElem?_eq_getElem hjl)
       have he:eval tb (put f d p.1) (.t t)=eval tb f (.t t):=by
        cases d with
        |none=>rfl
        |some d=>
         simp only[eval,put,get]
         rw[if_neg fun e=>hd (by rw[e])]
       rw[Rb he]at this
       exact⟨none,by rw[Option.bind_some];exact this,rfl⟩
      ·obtain rfl:j=k:=by omega
       exact⟨p.2,by rw[g0,Option.bind_some,hp],by rw[g0];simp[hu]⟩
    simp only[IC,hwt,Option.bind_some,if_true,g0,hp]
    rw[if_pos (by
     rw[List.all_eq_true]
     intro j hj
     rw[List.mem_range'_1]at hj
     exact decide_eq_true (hk j hj.1 hj.2))]
    exact h6
  ·obtain⟨tl,h1,h2,h3,h4,h5⟩:=K6 e
   have hms: ∀m∈ms,wC tb cl f tl m:=fun m hm i h' hi hg=>by
    have he:=J8 (tb:=tb) (f:=f) (v:=p.1) hfr m hm
    rw[Rb he.symm]
    exact h4 m hm i h' hi hg
   refine⟨tl,?_,h2,h3,hms,fun pre hpre hes=> ?_⟩
   ·simp[Hm,hwt,hp,hu,h1]
   ·have h6:=h5 pre hpre hes
    have g0:(pre++h::tl)[k]? =some h:=by rw[←hpre,List.getElem?_append_right (Nat.le_refl _),Nat.sub_self];rfl
    have hk: ∀j,lo≤j→j<lo+(hi+1-lo)→ ∃u,((pre++h::tl)[j]?).bind (fun h=>Bo tb cl (eval tb f) h o)=some (p.1,u)∧some (u.getD ((pre++h::tl)[j]?.getD []))=(pre++h::tl)[j]? :=by
     intro j hj1 hj2
     rcases Nat.lt_or_ge j k with hjk|hjk
     ·have hjp:j<pre.length:=by omega
      rw[List.getElem?_append_left hjp,List.getElem?_eq_getElem hjp]
      have:=hes x hx j pre[j] (by omega) (List.getElem?_eq_getElem hjp)
      refine⟨none,?_,rfl⟩
      rw[Option.bind_some,hxo,hxv]
      simp only[Bo,eval,hxa,this,val,Option.map_some]
     ·obtain rfl:j=k:=by omega
      exact⟨p.2,by rw[g0,Option.bind_some,hp],by rw[g0];simp[hu]⟩
    simp only[IC,hwt,Option.bind_some,if_true,g0,hp]
    rw[if_pos (by
     rw[List.all_eq_true]
     intro j hj
     rw[List.mem_range'_1]at hj
     exact decide_eq_true (hk j hj.1 hj.2))]
    exact h6
theorem Y1{l:List AQ}{w:List (Option (Nat×Nat))}{f:Fr}{h:Av}{n:Nat}{p:Fr×Av}(e:FM tb cl n 0 [] [] l w f h p):
  AS tb cl (.regd l w) f h=some (.normal,p.1,p.2):=by
 obtain⟨tl,h1,h2,h3,h4,h5⟩:=K6 (f':=p.1) (h':=p.2) e
 have h6:=h5 [] rfl (fun e he=>by cases he)
 simp only[List.nil_append]at h6
 simp only[AS,h1,Option.bind_some,List.tail_cons,h6,h2,Option.map_some]
end
structure Ob where
 ag:Bool
 n:Nat
 t:Nat
 d:Nat
 φ:AJ
 c:Nat
def fR:List Ob→List Ob
 |[]=>[]
 |m::r=>match m.c with
  |0=>fR r
  |1=>fR r
  |c+2=>{m with c:=c+1}::fR r
def Nl(d:Option Nat):List Ob→Bool
 |[]=>true
 |m::r=>(match d with|some d=> !Nat.beq d m.t&& !Nat.beq d m.d|none=>true)&&Nl d r
def T.Uni(t:T):Prop:= ∀{P Q:Nat→Prop} {H G:Av} {cs ds:List AV} {x:t.α},t.R P H cs x→t.R Q G ds x→cs=ds
theorem WE{α:Type}{c:α→AV}{z:α}{hs hm}:(RH α c z hs hm).Uni:=fun h g=>h.trans g.symm
theorem Ck{k:IntKind}:(T.int k).Uni:=WE
theorem HK:T.u8.Uni:=WE
theorem Qz:T.u64.Uni:=WE
theorem AP{a b:T}(h:a.Uni)(g:b.Uni):(CB a b).Uni:=by
 rintro P Q H G cs ds x ⟨c,d,e,h1,h2⟩ ⟨c',d',e',h1',h2'⟩
 rw[e,e',h h1 h1',g h2 h2']
theorem BM{t:T}{β:Type}{f:β→t.α}{g:t.α→β}{hfg: ∀y,f (g y)=y}(h:t.Uni):(OF t β f g hfg).Uni:=fun r r'=>h r r'
theorem C1.uni{t:T}(h:t.Uni){P Q:Nat→Prop}{H G:Av}: ∀{c d:List (List AV)} {x:List t.α},C1 t P H c x→C1 t Q G d x→c=d
 |[],[],[],_,_=>rfl
 |_::_,_::_,_::_,h1,h2=>by rw[h h1.1 h2.1,C1.uni h h1.2 h2.2]
 |[],_::_,[],_,h2=>h2.elim
 |_::_,_,[],h1,_=>h1.elim
 |[],_,_::_,h1,_=>h1.elim
 |_::_,[],_::_,_,h2=>h2.elim
theorem D9{n:Nat}{t:T}(h:t.Uni):(A2 n t).Uni:=by
 rintro P Q H G cs ds x ⟨c,e,h1⟩ ⟨c',e',h1'⟩
 rw[e,e',h1.uni h h1']
theorem T.Uni.V{t:T}(h:t.Uni){P Q:Nat→Prop}{H G:Av}{v w:AV}{x:t.α}(r:t.V P H v x)(r':t.V Q G w x):v=w:=by
 rcases r with ⟨ha,cs,rfl,r⟩|⟨ha,r⟩
 ·rcases r' with ⟨_,ds,rfl,r'⟩|⟨hb,_⟩
  ·rw[h r r']
  ·rw[ha]at hb;cases hb
 ·rcases r' with ⟨hb,_⟩|⟨_,r'⟩
  ·rw[ha]at hb;cases hb
  ·have:=h r r'
   simpa using this
def AJ.Uni:AJ→Prop
 | .val t _=>t.Uni
 | .own _=>True
 | .cp _ _=>True
 | .ep _ _ _=>True
 | .oc _ _ _ _=>True
 | .con _=>True
 | .kv _=>True
 | .fnv _ _ _=>True
 |_=>False
theorem AJ.Uni.eq{φ:AJ}(h:φ.Uni){rv:Nat→AV}{ss:Ss}{P Q:Nat→Prop}{H G:Av}{v w:AV}(r:FR rv ss P H φ v)(r':FR rv ss Q G φ w):v=w:=by
 cases φ<;>simp only[AJ.Uni]at h
 case val t x=>exact T.Uni.V h r r'
 case own j=>exact r.2.trans r'.2.symm
 case cp j o=>
  obtain⟨_,id,e,rfl⟩:=r
  obtain⟨_,id',e',rfl⟩:=r'
  rw[e]at e';cases e';rfl
 case ep j i o=>
  obtain⟨_,id,n,e,_,rfl⟩:=r
  obtain⟨_,id',n',e',_,rfl⟩:=r'
  rw[e]at e';cases e';rfl
 case oc j o s n=>
  obtain⟨_,id,e,rfl⟩:=r
  obtain⟨_,id',e',rfl⟩:=r'
  rw[e]at e';cases e';rfl
 case con c=>exact r.1.trans r'.1.symm
 case kv j=>exact r.2.trans r'.2.symm
 case fnv f js ks=>exact r.2.trans r'.2.symm
inductive WH(tb:CD)(Γ:Cx):List Ob→Prop where
 |nil:WH tb Γ []
 |cons {ag:Bool} {n t d c:Nat} {φ:AJ} {l:List Ob} (h:Fi tb Γ (.ld ag n (.t t)) (some ()) fun _=>φ) (hd:Cv tb Γ (.t d) φ) (hu:φ.Uni) (r:WH tb Γ l):WH tb Γ (⟨ag,n,t,d,φ,c⟩::l)
inductive gJ(f:Fr):List Ob→List U1→Prop where
 |nil:gJ f [] []
 |cons {ag:Bool} {n t d c:Nat} {φ:AJ} {v:AV} {l:List Ob} {ms:List U1} (h:get f d=v) (r:gJ f l ms):gJ f (⟨ag,n,t,d,φ,c⟩::l) (⟨ag,n,t,v,c⟩::ms)
theorem gJ.dec{f:Fr}: ∀{l:List Ob} {ms:List U1},gJ f l ms→gJ f (fR l) (aC ms)
 |_,_, .nil=> .nil
 |_,_, .cons (c:=c) h r=>by
  match c with
  |0=>exact r.dec
  |1=>exact r.dec
  |c+2=>exact .cons h r.dec
theorem gJ.fresh{d:Option Nat}{f:Fr}: ∀{l:List Ob} {ms:List U1},gJ f l ms→Nl d l=true→O5 d ms=true
 |_,_, .nil,_=>rfl
 |_,_, .cons h r,e=>by
  simp only[Nl,Bool.and_eq_true]at e
  simp only[O5,Bool.and_eq_true]
  refine⟨?_,r.fresh e.2⟩
  cases d with
  |none=>rfl
  |some d=>have:=e.1;simp only[Bool.and_eq_true]at this;exact this.1
theorem gJ.put{d:Option Nat}{f:Fr}{w:AV}: ∀{l:List Ob} {ms:List U1},gJ f l ms→Nl d l=true→gJ (put f d w) l ms
 |_,_, .nil,_=> .nil
 |_,_, .cons h r,e=>by
  simp only[Nl,Bool.and_eq_true]at e
  refine .cons ?_ (r.put e.2)
  cases d with
  |none=>exact h
  |some d=>
   have:=e.1
   simp only[Bool.and_eq_true,Bool.not_eq_true']at this
   simp only[Am.put,get]
   rw[if_neg fun e=>by rw[e,Nat.beq_refl]at this;cases this.2]
   exact h
theorem WH.spec{tb:CD}{Γ:Cx}{E:Oc}{rv:Nat→AV}{fp:Fp}{f:Fr}{H:Av}(I:Bm E Γ rv fp f H): ∀{l:List Ob} {ms:List U1},WH tb Γ l→gJ f l ms→ ∀m∈ms,0<m.c→Bo tb (BW tb) (eval tb f) H (.ld m.ag m.n (.t m.t))=some (m.v,none)
 |_,_, .nil, .nil,m,hm,_=>by cases hm
 |_,_, .cons h hd hu r, .cons h' r',m,hm,hc=>by
  rcases List.mem_cons.1 hm with rfl|hm
  ·obtain⟨v,u,h1,h2,h3⟩:=h E rv fp f H I () rfl
   have:=hu.eq h3 (hd E rv fp f H I)
   subst this
   rw[h1]
   have:u=none:=Gf (p:=(_,u)) h1
   rw[this,←h'];rfl
  ·exact WH.spec I r r' m hm hc
structure Cb where
 ag:Bool
 n:Nat
 t:Nat
 off:Nat
 lo:Nat
 u:T
 x:u.α
def Qp(d:Option Nat):List Cb→Bool
 |[]=>true
 |m::r=>(match d with|some d=> !Nat.beq d m.t|none=>true)&&Qp d r
inductive CR(f:Fr):List Cb→List pR→Prop where
 |nil:CR f [] []
 |cons {ag:Bool} {n t off lo id o:Nat} {u:T} {x:u.α} {v a:AV} {l:List Cb} {es:List pR} {P:Nat→Prop} {H:Av} (h0:get f t= .ptr id o) (ha:a= .ptr id (o+off)) (h:u.V P H v x) (r:CR f l es):
   CR f (⟨ag,n,t,off,lo,u,x⟩::l) (⟨ag,n,a,v,lo⟩::es)
theorem CR.put{d:Option Nat}{f:Fr}{w:AV}: ∀{l:List Cb} {es:List pR},CR f l es→Qp d l=true→CR (put f d w) l es
 |_,_, .nil,_=> .nil
 |_,_, .cons h0 ha h r,e=>by
  simp only[Qp,Bool.and_eq_true]at e
  refine .cons ?_ ha h (r.put e.2)
  cases d with
  |none=>exact h0
  |some d=>
   have:=e.1
   simp only[Bool.not_eq_true']at this
   simp only[Am.put,get]
   rw[if_neg fun e=>by rw[e,Nat.beq_refl]at this;cases this]
   exact h0
theorem CR.find{f:Fr}: ∀{l:List Cb} {es:List pR} {i:Nat} {c:Cb},CR f l es→l[i]? =some c→ ∃e∈es,e.ag=c.ag∧e.n=c.n∧e.lo=c.lo∧(∃id o,get f c.t= .ptr id o∧e.a= .ptr id (o+c.off))∧ ∃P H,c.u.V P H e.v c.x
 |_,_,i,c, .nil,h=>by simp at h
 |_,_,0,c, .cons h0 ha h r,hc=>by
  simp only[List.getElem?_cons_zero,Option.some.injEq]at hc
  subst hc
  exact⟨_,List.mem_cons_self,rfl,rfl,rfl,⟨_,_,h0,ha⟩,_,_,h⟩
 |_,_,i+1,c, .cons h0 ha h r,hc=>by
  simp only[List.getElem?_cons_succ]at hc
  obtain⟨e,he,g⟩:=r.find hc
  exact⟨e,List.mem_cons_of_mem _ he,g⟩
def U2(Γ:Cx)(c:Cb):Prop:= ∃j o ps N s y o',B3 Γ.ts c.t=some (.cp j o)∧AG Γ.ss j=some (.cells ps)∧It ps (o+c.off)=some (N, .val s y,o')∧ ∃F:AL s c.u o',F.get y=c.x∧c.ag=c.u.agg∧c.n=c.u.sz
theorem MD{Γ:Cx}{ag:Bool}{n t off lo j o N o':Nat}{ps:List (Nat×AJ)}{s u:T}{y:s.α}(F:AL s u o')(h1:B3 Γ.ts t=some (.cp j o))(h2:AG Γ.ss j=some (.cells ps))(h3:It ps (o+off)=some (N, .val s y,o'))(h4:ag=u.agg)(h5:n=u.sz):U2 Γ ⟨ag,n,t,off,lo,u,F.get y⟩:=
 ⟨j,o,ps,N,s,y,o',h1,h2,h3,F,rfl,h4,h5⟩
theorem U2.spec{Γ:Cx}{c:Cb}{E:Oc}{rv:Nat→AV}{fp:Fp}{f:Fr}{H:Av}(h:U2 Γ c)(R:Bm E Γ rv fp f H): ∃id o v,get f c.t= .ptr id o∧load H c.ag c.n (.ptr id (o+c.off))=some v∧c.u.V (Pf E Γ.ss fp H) H v c.x:=by
 obtain⟨j,o,ps,N,s,y,o',h1,hj,hp,F,hx,hag,hn⟩:=h
 obtain⟨l,id,e,hv⟩:=R.temps _ _ h1
 obtain⟨cs,h0,h2,h3⟩:=F2 R hj e
 obtain⟨b',c',e0,e1,e2,e3,e4,e5,_⟩:=Fb h3 hp
 have hle:=F.le
 have hl:=s.len e4
 have hr:=F.getR e4
 rw[←e5 o' c.u.sz (by omega),←e1]at hr
 obtain⟨v,g1,g2⟩:=T.V.of hr
 refine⟨id,o,v,hv,?_,by rw[←hx];exact g2⟩
 rw[hag,hn]
 simp only[Am.load,place,h2,Option.map_some,Option.bind_some,if_pos (show o+c.off+c.u.sz≤cs.length by omega),g1]
inductive JY(Γ:Cx)(k:Nat)(C:List Cb):List Cb→Prop where
 |nil:JY Γ k C []
 |new {c:Cb} {l:List Cb} (hk:c.lo=k) (h:U2 Γ c) (r:JY Γ k C l):JY Γ k C (c::l)
 |old {c:Cb} {l:List Cb} (i:Nat) (hi:C[i]? =some c) (hu:c.u.Uni) (h:U2 Γ c) (r:JY Γ k C l):JY Γ k C (c::l)
theorem JY.spec{Γ:Cx}{k:Nat}{C:List Cb}{es:List pR}{E:Oc}{rv:Nat→AV}{fp:Fp}{f:Fr}{H:Av}(R:Bm E Γ rv fp f H)(hC:CR f C es): ∀{l:List Cb},JY Γ k C l→ ∃es',CR f l es'∧ ∀e∈es',(e∈es∨e.lo=k)∧load H e.ag e.n e.a=some e.v
 |_, .nil=>⟨[], .nil,fun _ h=>by cases h⟩
 |_, .new (c:=c) hk h r=>by
  obtain⟨es',h1,h2⟩:=r.spec R hC
  obtain⟨id,o,v,g1,g2,g3⟩:=h.spec R
  refine⟨⟨c.ag,c.n, .ptr id (o+c.off),v,c.lo⟩::es', .cons g1 rfl g3 h1,fun e he=> ?_⟩
  rcases List.mem_cons.1 he with rfl|he
  ·exact⟨.inr hk,g2⟩
  ·exact h2 e he
 |_, .old (c:=c) i hi hu h r=>by
  obtain⟨es',h1,h2⟩:=r.spec R hC
  obtain⟨id,o,v,g1,g2,g3⟩:=h.spec R
  obtain⟨e,he,e1,e2,e3,⟨id',o',e4,e5⟩,P,H',e6⟩:=hC.find hi
  have hv:v=e.v:=hu.V g3 e6
  rw[g1]at e4
  cases e4
  refine⟨⟨c.ag,c.n, .ptr id (o+c.off),v,c.lo⟩::es', .cons g1 rfl g3 h1,fun x hx=> ?_⟩
  rcases List.mem_cons.1 hx with rfl|hx
  ·refine⟨.inl ?_,g2⟩
   obtain⟨ag,n,a,v',lo⟩:=e
   simp only at e1 e2 e3 e5 hv
   subst e1 e2 e3 e5 hv
   exact he
  ·exact h2 x hx
structure A8(tb:CD)(Γ:Cx)(N k:Nat)(B:List Ob)(C:List Cb)(l:List AQ)(w:List (Option (Nat×Nat)))(ks:List Kf){ρ:Type}(Q:Lf ρ) where
 m:Option ρ
 ok: ∀E f H,Rel E Γ f H→ ∀ms,gJ f B ms→ ∀es,CR f C es→ ∀r,m=some r→ ∃p e f' H',FM tb (BW tb) N k ms es l w f H p∧HN tb ks (.normal,p.1,p.2)=some (e,f',H')∧Q E r e f' H'
section
variable{tb:CD}{Γ:Cx}{ks:List Kf}{ρ:Type}{Q:Lf ρ}{w:List (Option (Nat×Nat))}{N k:Nat}{B:List Ob}{C C':List Cb}
def Aa.regd{l:List AQ}(n:Nat)(s:A8 tb Γ n 0 [] [] l w ks Q):Aa tb Γ (.regd l w) ks Q:=
 ⟨s.m,fun E f H R r hr=>by
  obtain⟨p,e,f',H',h1,h2,h3⟩:=s.ok E f H R [] .nil [] .nil r hr
  exact⟨e,f',H',by rw[Y1 h1];exact h2,h3⟩⟩
def CO(s:Aa tb Γ (rg false []) ks Q):A8 tb Γ N N B C [] [] ks Q:=
 ⟨s.m,fun E f H R ms _ es _ r hr=>by
  obtain⟨e,f',H',h1,h2⟩:=s.ok E f H R r hr
  rw[Dd]at h1
  exact⟨(f,H),e,f',H',⟨rfl,rfl⟩,h1,h2⟩⟩
def A8.turn{l:List AQ}{Γ':Cx}(h: ∀E f H,Rel E Γ f H→Rel E Γ' f H)(s:A8 tb Γ' N k B C l w ks Q):A8 tb Γ N k B C l w ks Q:=
 ⟨s.m,fun E f H R ms hms es hes r hr=>s.ok E f H (h E f H R) ms hms es hes r hr⟩
def A8.frzRow{l:List AQ}(j:Nat){t:T}{g:GS t.α}(h:AG Γ.ss j=some (.row t g))(hn:Nat.blt j Zt=true)(s:A8 tb (Γ.turn j (qV t g)) N k B C l w ks Q):A8 tb Γ N k B C l w ks Q:=
 s.turn fun _ _ _ ⟨rv,fp,I⟩=>⟨rv,fp,I.frzRow h hn⟩
variable{o:Hj}{l:List AQ}{y:Nat×Nat}
def X5(N k:Nat)(B:List Ob)(C:List Cb)(y:Nat×Nat)(d:Option Nat)(o:Hj):Bool:=Qb N k y.1 y.2 o&&(Nl d B&&Qp d C)
theorem qE{cl:Nat→List AV→Av→JG}{d:Option Nat}{ms:List U1}{es:List pR}{f:Fr}{H:Av}{v:AV}{u:Option Av}{p:Fr×Av}(hq:X5 N k B C y d o=true)(hms:gJ f B ms)(h1:Bo tb cl (eval tb f) H o=some (v,u))(h2:u.getD H=H)
  (g:FM tb cl N k ms es l w (put f d v) H p):FM tb cl N k ms es (⟨d,none,o⟩::l) (some y::w) f H p:=by
 obtain⟨lo,hi⟩:=y
 simp only[X5,Bool.and_eq_true]at hq
 refine .inl ⟨rfl,(v,u),h1,h2,hms.fresh hq.2.1, .inl ⟨by rw[hq.1];rfl,?_⟩⟩
 simp only[jZ,hq.1,cond_true]
 exact g
theorem Wr{d:Option Nat}(hq:X5 N k B C y d o=true):Nl d B=true∧Qp d C=true:=by
 simp only[X5,Bool.and_eq_true]at hq;exact hq.2
def jR(B:List Ob)(C':List Cb)(d:Option Nat):Bool:=Nl d B&&Qp d C'
theorem stepW{Γ':Cx}{E:Oc}{rv rv':Nat→AV}{fp fp':Fp}{d:Option Nat}{ms:List U1}{es:List pR}{f:Fr}{H:Av}{v:AV}{u:Option Av}(hq:jR B C' d=true)(hb:WH tb Γ' B)(hc:JY Γ k C C')(hms:gJ f B ms)(hes:CR f C es)(I0:Bm E Γ rv fp f H)(h1:Bo tb (BW tb) (eval tb f) H o=some (v,u))(I:Bm E Γ' rv' fp' (put f d v) (u.getD H)):
  ∃es',CR (put f d v) C' es'∧ ∀p,FM tb (BW tb) N (k+1) (aC ms) es' l w (put f d v) (u.getD H) p→FM tb (BW tb) N k ms es (⟨d,none,o⟩::l) (none::w) f H p:=by
 simp only[jR,Bool.and_eq_true]at hq
 obtain⟨es',g1,g2⟩:=hc.spec I0 hes
 exact⟨es',g1.put hq.2,fun p g=> .inl ⟨rfl,(v,u),es',h1,hms.fresh hq.1,hb.spec I (hms.put hq.1),g2,g⟩⟩
def A8.op{d:Nat}{β:Type}{a:Option β}{φ:β→AJ}(hq:X5 N k B C y (some d) o=true)(h:Fi tb Γ o a φ)(s:(b:β)→A8 tb (Γ.push d (φ b)) N k B C l w ks Q):A8 tb Γ N k B C (⟨some d,none,o⟩::l) (some y::w) ks Q:=
 ⟨a.bind fun b=>(s b).m,fun E f H ⟨rv,fp,I⟩ ms hms es hes r hr=>by
  obtain⟨b,hb,hr⟩:=Option.bind_eq_some_iff.1 hr
  obtain⟨v,u,h1,h2,h3⟩:=h E rv fp f H I b hb
  obtain⟨p,e,f',H',g,g'⟩:=(s b).ok E (put f (some d) v) H ⟨rv,fp,I.push h3⟩ ms (hms.put (Wr hq).1) es (hes.put (Wr hq).2) r hr
  exact⟨p,e,f',H',qE hq hms h1 h2 g,g'⟩⟩
def A6{d:Nat}{φ:AJ}(hq:X5 N k B C y (some d) o=true)(h:Fi tb Γ o (some ()) fun _=>φ)(s:A8 tb (Γ.push d φ) N k B C l w ks Q):A8 tb Γ N k B C (⟨some d,none,o⟩::l) (some y::w) ks Q:=
 ⟨s.m,(A8.op hq h fun _=>s).ok⟩
def DZ{d:Nat}{t:T}{x:t.α}(hq:X5 N k B C y (some d) o=true)(h:Fi tb Γ o (some ()) fun _=> .val t x)(s:(y:t.α)→A8 tb (Γ.push d (.val t y)) N k B C l w ks Q):A8 tb Γ N k B C (⟨some d,none,o⟩::l) (some y::w) ks Q:=
 A6 hq h (s x)
def Fh{d n t lo hi t0 off lo0:Nat}{ag:Bool}{u:T}{x:u.α}(i:Nat){j o o0:Nat}(hi0:C[i]? =some ⟨ag,n,t0,off,lo0,u,x⟩)(ht:B3 Γ.ts t=some (.cp j o))(ht0:B3 Γ.ts t0=some (.cp j o0))(ho:o=o0+off)
  (hq:(Nat.beq hi k&&(Nat.ble lo0 lo&&(Nl (some d) B&&Qp (some d) C)))=true) (hu:u.Uni) (h:Fi tb Γ (.ld ag n (.t t)) (some ()) fun _=> .val u x)
  (s:A8 tb (Γ.push d (.val u x)) N k B C l w ks Q):A8 tb Γ N k B C (⟨some d,none, .ld ag n (.t t)⟩::l) (some (lo,hi)::w) ks Q:=
 ⟨s.m,fun E f H ⟨rv,fp,I⟩ ms hms es hes r hr=>by
  obtain⟨v,u',h1,h2,h3⟩:=h E rv fp f H I () rfl
  simp only[Bool.and_eq_true]at hq
  obtain⟨p,e,f',H',h4,h5⟩:=s.ok E (put f (some d) v) H ⟨rv,fp,I.push h3⟩ ms (hms.put hq.2.2.1) es (hes.put hq.2.2.2) r hr
  obtain⟨x',hx,e1,e2,e3,⟨id,o',e4,e5⟩,P,H0,e6⟩:=hes.find hi0
  have hv:v=x'.v:=hu.V h3 e6
  obtain⟨_,id1,g1,g2⟩:=I.temps _ _ ht
  obtain⟨_,id2,g3,g4⟩:=I.temps _ _ ht0
  rw[g1]at g3;cases g3
  have e4':get f t0= .ptr id o':=e4
  rw[g4]at e4';cases e4'
  refine⟨p,e,f',H', .inl ⟨rfl,(v,u'),h1,h2,hms.fresh hq.2.2.1, .inr ⟨Nat.eq_of_beq_eq_true hq.1,⟨x',hx,t,?_,?_,hv,?_⟩,h4⟩⟩,h5⟩
  ·rw[e1,e2]
  ·rw[g2,e5,ho]
  ·have e3':x'.lo=lo0:=e3
   rw[e3'];exact Nat.le_of_ble_eq_true hq.2.1⟩
def DP{d:Option Nat}{β:Type}{a:Option β}{Γ':β→Cx}(hq:jR B C' d=true)(hb: ∀b,WH tb (Γ' b) B)(hc:JY Γ k C C')(h:WG tb Γ d o a Γ')(s:(b:β)→A8 tb (Γ' b) N (k+1) (fR B) C' l w ks Q):A8 tb Γ N k B C (⟨d,none,o⟩::l) (none::w) ks Q:=
 ⟨a.bind fun b=>(s b).m,fun E f H ⟨rv,fp,I⟩ ms hms es hes r hr=>by
  obtain⟨b,hb',hr⟩:=Option.bind_eq_some_iff.1 hr
  obtain⟨v,u,h1,rv',fp',h3⟩:=h E rv fp f H I b hb'
  obtain⟨es',g1,g2⟩:=stepW (l:=l) (w:=w) (N:=N) hq (hb b) hc hms hes I h1 h3
  have hq':=hq;simp only[jR,Bool.and_eq_true]at hq'
  obtain⟨p,e,f',H',g,g'⟩:=(s b).ok E _ _ ⟨rv',fp',h3⟩ _ (hms.put hq'.1).dec _ g1 r hr
  exact⟨p,e,f',H',g2 p g,g'⟩⟩
def SimDW.op{d:Nat}{β:Type}{a:Option β}{φ:β→AJ}(hq:jR B C' (some d)=true)(hb: ∀b,WH tb (Γ.push d (φ b)) B)(hc:JY Γ k C C')(h:Fi tb Γ o a φ)(s:(b:β)→A8 tb (Γ.push d (φ b)) N (k+1) (fR B) C' l w ks Q):A8 tb Γ N k B C (⟨some d,none,o⟩::l) (none::w) ks Q:=
 DP hq hb hc (a:=a) (Γ':=fun b=>Γ.push d (φ b)) (fun E rv fp f H I b hb'=>by
  obtain⟨v,u,h1,h2,h3⟩:=h E rv fp f H I b hb'
  exact⟨v,u,h1,rv,fp,by rw[h2];exact I.push h3⟩) s
end
end Go.Proofs.YtobejhpigbllpaaGreatDoor.Am
namespace Go.Proofs.YtobejhpigbllpaaGreatDoor.Am
def LY(tB nne:Nat):Dx:=⟨false,1,20,[],
 (.seq (rg false [⟨some 2,none, .mv (.t 0)⟩,⟨some 3,none, .nilc (.t 2)⟩,⟨some 4,none, .fa 0 (.t 3)⟩,⟨some 5,none, .ld false 1 (.t 4)⟩,⟨some 6,none, .eq false .p (.t 5) (.k (.nilp))⟩])
 (.cond (.t 6)
  (rg false [⟨some 7,none, .mv (.t 0)⟩,⟨some 8,none, .mv (.t 0)⟩,⟨some 9,none, .cvp (.t 8)⟩,⟨some 10,none, .call nne [(.t 9)]⟩,⟨some 11,none, .cvu tB 2 (.t 10)⟩,⟨some 12,none, .nilc (.t 7)⟩,⟨some 13,none, .fa 0 (.t 12)⟩,⟨none,none, .st 1 (.t 13) (.t 11)⟩])
  (.seq (rg false [⟨some 14,none, .mv (.t 0)⟩,⟨some 15,none, .nilc (.t 14)⟩,⟨some 16,none, .fa 0 (.t 15)⟩,⟨some 17,none, .ld false 1 (.t 16)⟩,⟨some 18,none, .mv (.t 0)⟩,⟨some 19,none, .eqp true (.t 17) (.t 18)⟩])
  (.cond (.t 19)
  .stop
  .skip))))⟩
def UI(te ncc:Nat):Dx:=⟨false,2,19,[.tmp 4, .tmp 5],
 (.seq (rg false [⟨some 4,none, .mv (.k (.i .i64 0))⟩,⟨some 5,none, .mv (.k (.nili))⟩])
 (.seq (rg false [⟨some 6,none, .mv (.t 0)⟩,⟨some 7,none, .call ncc [(.t 6)]⟩])
 (.seq (rg false [⟨some 8,none, .mv (.t 0)⟩,⟨some 9,none, .mv (.t 0)⟩,⟨some 10,none, .nilc (.t 9)⟩,⟨some 11,none, .fa 1 (.t 10)⟩,⟨some 12,none, .ld false 1 (.t 11)⟩,⟨some 13,none, .mv (.t 1)⟩,⟨some 14,none, .app te 1 1 (.t 12) (.t 13)⟩,⟨some 15,none, .nilc (.t 8)⟩,⟨some 16,none, .fa 1 (.t 15)⟩,⟨none,none, .st 1 (.t 16) (.t 14)⟩])
 (.seq (rg false [⟨some 17,none, .mv (.t 1)⟩,⟨some 18,none, .lens (.t 17)⟩,⟨some 4,none, .mv (.t 18)⟩,⟨some 5,none, .mv (.k (.nili))⟩])
 .ret))))⟩
def UJ(te ncc:Nat):Dx:=⟨false,2,17,[.tmp 4],
 (.seq (rg false [⟨some 4,none, .mv (.k (.nili))⟩])
 (.seq (rg false [⟨some 5,none, .mv (.t 0)⟩,⟨some 6,none, .call ncc [(.t 5)]⟩])
 (.seq (rg false [⟨some 7,none, .mv (.t 0)⟩,⟨some 8,none, .mv (.t 0)⟩,⟨some 9,none, .nilc (.t 8)⟩,⟨some 10,none, .fa 1 (.t 9)⟩,⟨some 11,none, .ld false 1 (.t 10)⟩,⟨some 12,none, .mv (.t 1)⟩,⟨some 13,none, .bll 1 (List.replicate 1 T.u8.zc) [(0,(.t 12))]⟩,⟨some 14,none, .app te 1 1 (.t 11) (.t 13)⟩,⟨some 15,none, .nilc (.t 7)⟩,⟨some 16,none, .fa 1 (.t 15)⟩,⟨none,none, .st 1 (.t 16) (.t 14)⟩])
 (.seq (rg false [⟨some 4,none, .mv (.k (.nili))⟩])
 .ret))))⟩
def Qw(te:Nat):Dx:=⟨false,1,14,[.tmp 2],
 (.seq (rg false [⟨some 2,none, .mv (.k (.s []))⟩])
 (.seq (.regd [⟨some 3,none, .mv (.t 0)⟩,⟨some 4,none, .nilc (.t 3)⟩,⟨some 5,none, .fa 1 (.t 4)⟩,⟨some 6,none, .ld false 1 (.t 5)⟩,⟨some 7,none, .usd (.t 6)⟩,⟨some 8,none, .mv (.t 0)⟩,⟨some 9,none, .nilc (.t 8)⟩,⟨some 10,none, .fa 1 (.t 9)⟩,⟨some 11,none, .ld false 1 (.t 10)⟩,⟨some 12,none, .len (.t 11)⟩,⟨some 13,none, .ust te (.t 7) (.t 12)⟩,⟨some 2,none, .mv (.t 13)⟩] [some (0,0),some (0,0),some (0,0),some (0,0),some (0,0),some (0,0),some (0,0),some (0,0),some (0,0),some (0,0),none,some (1,1)])
 .ret))⟩
section
variable{tb:CD}{tB te ncc nne nws nwb nbs:Nat}{h:Av}{id:Nat}{a b:AV}
theorem Ga{cs:List AV}{l:Option Nat}(hh:h[id]? =some (.cells l cs)):BO h id=some cs∧DJ h id=l:=⟨by simp only[BO,hh],by simp only[DJ,hh]⟩
theorem bU{els:List (List AV)}{l:Option Nat}{fz:Bool}{sz:Nat}(hh:h[id]? =some (.row l fz sz els)):rowAt h id=some (fz,sz,els)∧DJ h id=l:=⟨by simp only[rowAt,hh],by simp only[DJ,hh]⟩
theorem KN(fn:Bool)(n:Nat)(h:Av)(hn:h.length=n)(vs:List AV)(hv:Bc vs=0): ∃u,Vq fn n h vs=(FL vs,some u)∧u=h:=by
 have h1:ZL h n vs=some vs:=by
  unfold ZL
  exact Na (by omega)
 have h2:h.take n=h:=by rw[←hn];exact List.take_length
 cases fn
 ·simp only[Vq,V3,h1,h2]
  split<;>exact⟨_,rfl,rfl⟩
 ·exact⟨_,rfl,rfl⟩
theorem Sn(n:Nat)(h:Av)(hn: ¬Cw (h.take n)≤n)(vs:List AV)(hv:Bc vs=0)(fn:Bool):Vq fn n h vs=(FL vs,some h):=by
 have h1:ZL h n vs=some vs:=by
  unfold ZL
  exact Na (by omega)
 cases fn
 ·simp only[Vq,V3,h1,if_neg hn]
 ·rfl
theorem UD(hf:tb.prim ncc=none∧tb.fns ncc=some (LY tB nne))(hne:tb.prim nne=some NG)(hh:h[id]? =some (.cells (some tB) [a,b]))(ha:a= .nilp∨a= .ptr id 0):
  Bs tb (BW tb) h ncc [.ptr id 0]=some (.tup [],some (h.set id (.cells (some tB) [.ptr id 0,b]))):=by
 obtain⟨hc,hl⟩:=Ga hh
 have hid:=(List.getElem?_eq_some_iff.1 hh).1
 simp only[Bs,hf.1]
 rw[OA,hf.2]
 rcases ha with rfl|rfl
 ·obtain⟨u,hu,rfl⟩:=KN false h.length (h.set id (.cells (some tB) [.ptr id 0,b])) (by simp) [] rfl
  simp[body,LY,AS,rg,ops,wanted,Bo,eval,get,put,val,load,place,shift,hc,hl,GI,sub,Wk,Bs,hne,NG,store,cellsOf,Bq,results,hu,FL]
 ·have hs:h.set id (.cells (some tB) [.ptr id 0,b])=h:=by
   apply List.ext_getElem?
   intro j
   rw[List.getElem?_set]
   split
   ·rename_i hj;subst hj;exact hh.symm
   ·rfl
  obtain⟨u,hu,rfl⟩:=KN false h.length h rfl [] rfl
  simp[body,LY,AS,rg,ops,wanted,Bo,eval,get,put,val,load,place,shift,hc,GI,sub,Wk,results,hu,FL,hs]
theorem JD(s:AR):(Bp s).length=s.length:=by simp[Bp]
theorem fY(s t:AR):Bp (s++t)=Bp s++Bp t:=by simp[Bp]
theorem bN{h:Av}{o:B5}(hh:h[id]? =some o):h.set id o=h:=by
 apply List.ext_getElem?
 intro j
 rw[List.getElem?_set]
 split
 ·rename_i hj;subst hj
  split
  ·exact hh.symm
  ·rename_i hn;exact absurd (List.getElem?_eq_some_iff.1 hh).1 hn
 ·rfl
inductive WK(tB te:Nat)(h:Av)(id:Nat)(s:AR):Av→Prop where
 |none {a:AV} (hh:h[id]? =some (.cells (some tB) [a, .nils])) (ha:a= .nilp∨a= .ptr id 0) (hs:s=[]):WK tB te h id s (h.set id (.cells (some tB) [.ptr id 0, .nils]))
 |first {a:AV} (hh:h[id]? =some (.cells (some tB) [a, .nils])) (ha:a= .nilp∨a= .ptr id 0) (hs:s≠[]) (hm:s.length≤BR):
  WK tB te h id s (h.set id (.cells (some tB) [.ptr id 0, .orow h.length s.length 0 s.length])++[.row (some te) false 1 (Bp s)])
 |more {r:Nat} {l:AR} (hh:h[id]? =some (.cells (some tB) [.ptr id 0, .orow r l.length 0 l.length])) (hr:h[r]? =some (.row (some te) false 1 (Bp l))) (hne:r≠id) (hm:l.length+s.length≤BR):
  WK tB te h id s ((h.set r (.row (some te) false 1 (Bp (l++s)))).set id (.cells (some tB) [.ptr id 0, .orow r (l++s).length 0 (l++s).length]))
theorem YD{s:AR}{G:Av}(hid:id<h.length)(hG:G=h.set id (.cells (some tB) [.ptr id 0, .orow h.length s.length 0 s.length])++[.row (some te) false 1 (Bp s)]): ¬Cw (G.take h.length)≤h.length:=by
 have h1:G.take h.length=h.set id (.cells (some tB) [.ptr id 0, .orow h.length s.length 0 s.length]):=by
  rw[hG];exact List.take_left' (by simp)
 rw[h1]
 have key: ∀(h:Av) (id:Nat) (o:B5) (m:Nat),id<h.length→m<DI o→m<Cw (h.set id o):=by
  intro h
  induction h with
  |nil=>intro id o m hi;simp at hi
  |cons x h ih=>
   intro id o m hi ho
   cases id with
   |zero=>simp only[List.set_cons_zero,Cw];omega
   |succ id=>simp only[List.set_cons_succ,Cw];have:=ih id o m (by simpa using hi) ho;omega
 have:=key h id (.cells (some tB) [.ptr id 0, .orow h.length s.length 0 s.length]) h.length hid (by simp only[DI,Bc,Bz];omega)
 omega
theorem Mc{d:Option Nat}{o:Hj}{l:List AQ}{f:Fr}{v:AV}{u:Option Av}{r:Option (Fr×Av)}(e:Bo tb (BW tb) (eval tb f) h o=some (v,u))(k:ops tb (BW tb) l (put f d v) (u.getD h)=r):ops tb (BW tb) (⟨d,none,o⟩::l) f h=r:=by
 simp[ops,wanted,e,k]
theorem In{l:List AQ}{y:AC}{f f':Fr}{h':Av}(e:ops tb (BW tb) l f h=some (f',h')):AS tb (BW tb) (.seq (rg false l) y) f h=AS tb (BW tb) y f' h':=by
 simp[AS,rg,e]
theorem qF{N j:Nat}{d:Option Nat}{o:Hj}{l:List AQ}{w:List (Option (Nat×Nat))}{y:Nat×Nat}{f:Fr}{v:AV}{p:Fr×Av}(e:Bo tb (BW tb) (eval tb f) h o=some (v,none))(k:FM tb (BW tb) N j [] [] l w (put f d v) h p)(hq:Qb N j y.1 y.2 o=true:=by rfl):FM tb (BW tb) N j [] [] (⟨d,none,o⟩::l) (some y::w) f h p:=by
 obtain⟨lo,hi⟩:=y
 refine .inl ⟨rfl,(v,none),e,rfl,rfl, .inl ⟨by rw[hq];rfl,?_⟩⟩
 simp only[jZ,hq,cond_true]
 exact k
theorem stW{N j:Nat}{d:Option Nat}{o:Hj}{l:List AQ}{w:List (Option (Nat×Nat))}{f:Fr}{v:AV}{u:Option Av}{p:Fr×Av}(e:Bo tb (BW tb) (eval tb f) h o=some (v,u))(k:FM tb (BW tb) N (j+1) [] [] l w (put f d v) (u.getD h) p):FM tb (BW tb) N j [] [] (⟨d,none,o⟩::l) (none::w) f h p:=
 .inl ⟨rfl,(v,u),[],e,rfl,(fun _ hm=>absurd hm (by simp)),(fun _ hx=>absurd hx (by simp)),k⟩
theorem stE{N:Nat}{f:Fr}:FM tb (BW tb) N N [] [] [] [] f h (f,h):=⟨rfl,rfl⟩
theorem kQ{x y:AC}{f f':Fr}{h':Av}(e:AS tb (BW tb) x f h=some (.normal,f',h')):AS tb (BW tb) (.seq x y) f h=AS tb (BW tb) y f' h':=by
 simp[AS,e]
theorem YE{cl:Nat→List AV→Av→JG}{rho:AO→AV}{x:AO}{ag:Bool}{n:Nat}{v:AV}(e:load h ag n (rho x)=some v):Bo tb cl rho h (.ld ag n x)=some (v,none):=by simp[Bo,e,val]
theorem vR{cl:Nat→List AV→Av→JG}{rho:AO→AV}{s x:AO}{t sz b:Nat}{new:List (List AV)}{r:AV×Option Av}(e:cK h sz (rho x)=some new)(e':SW h t sz b (rho s) new=some r):Bo tb cl rho h (.app t sz b s x)=some r:=by simp[Bo,e,e']
theorem ap_st{cl:Nat→List AV→Av→JG}{rho:AO→AV}{a x:AO}{n:Nat}{G:Av}(e:store h n (rho a) (rho x)=some G):Bo tb cl rho h (.st n a x)=some (.junk,some G):=by simp[Bo,e]
theorem ap_len{cl:Nat→List AV→Av→JG}{rho:AO→AV}{x:AO}{n:Nat}(e:Oy (rho x)=some n):Bo tb cl rho h (.len x)=some (.i .i64 n,none):=by simp[Bo,e]
theorem UE{rho:AO→AV}{g:Nat}{xs:List AO}{r:AV×Option Av}(e:Bs tb (BW tb) h g (xs.map rho)=some r):Bo tb (BW tb) rho h (.call g xs)=some r:=by simp only[Bo];exact e
theorem ws_run{s:AR}{h1 G:Av}{bv bv':AV}{u2:Option Av}(hc:Bs tb (BW tb) h ncc [.ptr id 0]=some (.tup [],some h1))(hld:load h1 false 1 (.ptr id 1)=some bv)(hap:SW h1 te 1 1 bv (Bp s)=some (bv',u2))(hst:store (u2.getD h1) 1 (.ptr id 1) bv'=some G):
  ∃f',AS tb (BW tb) (UI te ncc).body [(0, .ptr id 0),(1, .s s)] h=some (.ret,f',G)∧results f' G [.tmp 4, .tmp 5]=some [.i .i64 s.length, .nili]:=by
 apply Exists.intro
 apply And.intro
 ·unfold UI
  simp only
  refine(In (Mc (v:= .i .i64 0) (u:=none) rfl (Mc (v:= .nili) (u:=none) rfl rfl))).trans ?_
  refine(In (Mc (v:= .ptr id 0) (u:=none) rfl (Mc (v:= .tup []) (u:=some h1) (UE (by exact hc)) rfl))).trans ?_
  refine(In (Mc (v:= .ptr id 0) (u:=none) rfl (Mc (v:= .ptr id 0) (u:=none) rfl (Mc (v:= .ptr id 0) (u:=none) rfl (Mc (v:= .ptr id 1) (u:=none) rfl (Mc (v:=bv) (u:=none) (YE (by exact hld))
   (Mc (v:= .s s) (u:=none) rfl (Mc (v:=bv') (u:=u2) (vR (new:=Bp s) rfl (by exact hap)) (Mc (v:= .ptr id 0) (u:=none) rfl (Mc (v:= .ptr id 1) (u:=none) rfl
   (Mc (v:= .junk) (u:=some G) (ap_st (by exact hst)) rfl))))))))))).trans ?_
  refine(In (Mc (v:= .s s) (u:=none) rfl (Mc (v:= .i .i64 s.length) (u:=none) rfl (Mc (v:= .i .i64 s.length) (u:=none) rfl (Mc (v:= .nili) (u:=none) rfl rfl))))).trans ?_
  rfl
 ·rfl
theorem wb_run{c:UInt8}{h1 G:Av}{bv bv':AV}{u2:Option Av}(hc:Bs tb (BW tb) h ncc [.ptr id 0]=some (.tup [],some h1))(hld:load h1 false 1 (.ptr id 1)=some bv)(hap:SW h1 te 1 1 bv (Bp [c])=some (bv',u2))(hst:store (u2.getD h1) 1 (.ptr id 1) bv'=some G):
  ∃f',AS tb (BW tb) (UJ te ncc).body [(0, .ptr id 0),(1, .i .u8 c.toNat)] h=some (.ret,f',G)∧results f' G [.tmp 4]=some [.nili]:=by
 apply Exists.intro
 apply And.intro
 ·unfold UJ
  simp only
  refine(In (Mc (v:= .nili) (u:=none) rfl rfl)).trans ?_
  refine(In (Mc (v:= .ptr id 0) (u:=none) rfl (Mc (v:= .tup []) (u:=some h1) (UE (by exact hc)) rfl))).trans ?_
  refine(In (Mc (v:= .ptr id 0) (u:=none) rfl (Mc (v:= .ptr id 0) (u:=none) rfl (Mc (v:= .ptr id 0) (u:=none) rfl (Mc (v:= .ptr id 1) (u:=none) rfl (Mc (v:=bv) (u:=none) (YE (by exact hld))
   (Mc (v:= .i .u8 c.toNat) (u:=none) rfl (Mc (v:= .sl 1 (Bp [c])) (u:=none) rfl (Mc (v:=bv') (u:=u2) (vR (new:=Bp [c]) rfl (by exact hap)) (Mc (v:= .ptr id 0) (u:=none) rfl (Mc (v:= .ptr id 1) (u:=none) rfl
   (Mc (v:= .junk) (u:=some G) (ap_st (by exact hst)) rfl)))))))))))).trans ?_
  refine(In (Mc (v:= .nili) (u:=none) rfl rfl)).trans ?_
  rfl
 ·rfl
theorem VR(hcc:tb.prim ncc=none∧tb.fns ncc=some (LY tB nne))(hne:tb.prim nne=some NG){s:AR}{G:Av}(hg:WK tB te h id s G):
  ∃h1 bv bv' u2,Bs tb (BW tb) h ncc [.ptr id 0]=some (.tup [],some h1)∧load h1 false 1 (.ptr id 1)=some bv∧SW h1 te 1 1 bv (Bp s)=some (bv',u2)∧store (u2.getD h1) 1 (.ptr id 1) bv'=some G∧
   (G.length=h.length∨ ¬Cw (G.take h.length)≤h.length):=by
 cases hg with
 |none hh ha hs=>
  subst hs
  have hc:=UD hcc hne hh ha
  have hid:=(List.getElem?_eq_some_iff.1 hh).1
  have h2:=Ga (h:=h.set id (.cells (some tB) [.ptr id 0, .nils])) (List.getElem?_set_self hid)
  refine⟨_, .nils, .nils,none,hc,?_,?_,?_, .inl (by simp)⟩
  ·simp[load,place,h2.1,GI,sub]
  ·simp[SW,Bp]
  ·simp[store,h2.1,h2.2,cellsOf,Bq]
 |first hh ha hs hm=>
  have hc:=UD hcc hne hh ha
  have hid:=(List.getElem?_eq_some_iff.1 hh).1
  have h2:=Ga (h:=h.set id (.cells (some tB) [.ptr id 0, .nils])) (List.getElem?_set_self hid)
  have hid':id<(h.set id (B5.cells (some tB) [.ptr id 0, .nils])).length:=by simpa using hid
  have h3:(h.set id (B5.cells (some tB) [.ptr id 0, .nils])++[B5.row (some te) false 1 (Bp s)])[id]? =some (.cells (some tB) [.ptr id 0, .nils]):=by
   rw[List.getElem?_append_left hid']
   exact List.getElem?_set_self hid
  have h4:=Ga h3
  have hs0: ¬s.length=0:=by simpa using hs
  refine⟨_, .nils, .orow h.length s.length 0 s.length,some (h.set id (B5.cells (some tB) [.ptr id 0, .nils])++[B5.row (some te) false 1 (Bp s)]),hc,?_,?_,?_, .inr (YD (te:=te) (tB:=tB) (s:=s) hid rfl)⟩
  ·simp[load,place,h2.1,GI,sub]
  ·simp[SW,JD,hs,hm]
  ·simp[store,h4.1,h4.2,cellsOf,Bq]
   rw[List.set_append_left _ _ hid',List.set_set]
 | @more r l hh hr hne' hm=>
  have hc:=UD hcc hne hh (.inr rfl)
  rw[bN hh]at hc
  have h1:=Ga hh
  have hrow:=bU hr
  by_cases hs:s=[]
  ·subst hs
   have hm':l.length≤BR:=by simpa using hm
   refine⟨_, .orow r l.length 0 l.length, .orow r l.length 0 l.length,none,hc,?_,?_,?_, .inl (by simp)⟩
   ·simp[load,place,h1.1,GI,sub]
   ·simp[SW,hrow.1,JD,hm',Bp]
   ·simp[store,h1.1,h1.2,cellsOf,Bq,bN hr]
  ·have h2:(h.set r (B5.row (some te) false 1 (Bp (l++s))))[id]? =some (.cells (some tB) [.ptr id 0, .orow r l.length 0 l.length]):=by
    rw[List.getElem?_set_ne hne'];exact hh
   have h3:=Ga h2
   have hs0: ¬s.length=0:=by simpa using hs
   refine⟨_, .orow r l.length 0 l.length, .orow r (l++s).length 0 (l++s).length,some (h.set r (B5.row (some te) false 1 (Bp (l++s)))),hc,?_,?_,?_, .inl (by simp)⟩
   ·simp[load,place,h1.1,GI,sub]
   ·simp[SW,hrow.1,hrow.2,JD,fY,hm,hs,Tn]
   ·simp[store,h3.1,h3.2,cellsOf,Bq]
theorem N8{fn:Dx}{args vs:List AV}{f f':Fr}{G:Av}{e:Ex}(hn:args.length=fn.np)(hf:(args.zipIdx.map fun p=>(p.2,p.1))=f)(he:AS tb (BW tb) fn.body f h=some (e,f',G))(hex:e= .ret∨e= .normal)(hr:results f' G fn.res=some vs):
  body tb (BW tb) fn args h=some (Vq fn.warm h.length G vs):=by
 simp only[body,if_pos hn,hf,he,Option.bind_some]
 rcases hex with rfl|rfl<;>simp[hr]
theorem wL(hf:tb.prim nws=none∧tb.fns nws=some (UI te ncc))(hcc:tb.prim ncc=none∧tb.fns ncc=some (LY tB nne))(hne:tb.prim nne=some NG){s:AR}{G:Av}(hg:WK tB te h id s G):
  Bs tb (BW tb) h nws [.ptr id 0, .s s]=some (.tup [.i .i64 s.length, .nili],some G):=by
 obtain⟨h1,bv,bv',u2,a1,a2,a3,a4,a5⟩:=VR hcc hne hg
 obtain⟨f',e1,e2⟩:=ws_run a1 a2 a3 a4
 simp only[Bs,hf.1]
 rw[OA,hf.2]
 simp only[Option.bind_some]
 rw[N8 (tb:=tb) (h:=h) (fn:=UI te ncc) (args:=[.ptr id 0, .s s]) rfl rfl e1 (.inl rfl) e2]
 rcases a5 with a5|a5
 ·obtain⟨u,hu,rfl⟩:=KN false h.length G a5 [.i .i64 s.length, .nili] rfl
  exact congrArg some hu
 ·exact congrArg some (Sn h.length G a5 [.i .i64 s.length, .nili] rfl false)
theorem wM(hf:tb.prim nwb=none∧tb.fns nwb=some (UJ te ncc))(hcc:tb.prim ncc=none∧tb.fns ncc=some (LY tB nne))(hne:tb.prim nne=some NG){c:UInt8}{G:Av}(hg:WK tB te h id [c] G):
  Bs tb (BW tb) h nwb [.ptr id 0, .i .u8 c.toNat]=some (.nili,some G):=by
 obtain⟨h1,bv,bv',u2,a1,a2,a3,a4,a5⟩:=VR hcc hne hg
 obtain⟨f',e1,e2⟩:=wb_run a1 a2 a3 a4
 simp only[Bs,hf.1]
 rw[OA,hf.2]
 simp only[Option.bind_some]
 rw[N8 (tb:=tb) (h:=h) (fn:=UJ te ncc) (args:=[.ptr id 0, .i .u8 c.toNat]) rfl rfl e1 (.inl rfl) e2]
 rcases a5 with a5|a5
 ·obtain⟨u,hu,rfl⟩:=KN false h.length G a5 [.nili] rfl
  exact congrArg some hu
 ·exact congrArg some (Sn h.length G a5 [.nili] rfl false)
theorem Y6: ∀l:AR,Eg (Bp l)=some l
 |[]=>rfl
 |c::l=>by
  have:=Y6 l
  simp only[Bp,List.map_cons,Eg]at this ⊢
  rw[this]
  simp
theorem vI{G:Av}{bv pv:AV}{n:Nat}{s:AR}{u2:Option Av}(hld:load h false 1 (.ptr id 1)=some bv)(hus:Bo tb (BW tb) (fun _=>bv) h (.usd (.t 0))=some (pv,none))(hln:Oy bv=some n)
  (hst:Bo tb (BW tb) (fun a=>match a with| .t 0=>pv|_=> .i .i64 n) h (.ust te (.t 0) (.t 1))=some (.s s,u2)) (hG:u2.getD h=G):
  ∃f',AS tb (BW tb) (Qw te).body [(0, .ptr id 0)] h=some (.ret,f',G)∧results f' G [.tmp 2]=some [.s s]:=by
 subst hG
 apply Exists.intro
 apply And.intro
 ·unfold Qw
  simp only
  refine(In (Mc (v:= .s []) (u:=none) rfl rfl)).trans ?_
  refine(kQ (Y1 (n:=1) (p:=(_,u2.getD h))
   (qF (v:= .ptr id 0) rfl (qF (v:= .ptr id 0) rfl (qF (v:= .ptr id 1) rfl (qF (v:=bv) (YE (by exact hld)) (qF (v:=pv) (by exact hus) (qF (v:= .ptr id 0) rfl (qF (v:= .ptr id 0) rfl (qF (v:= .ptr id 1) rfl (qF (v:=bv) (YE (by exact hld)) (qF (v:= .i .i64 n) (ap_len (by exact hln))
    (stW (v:= .s s) (u:=u2) (by exact hst) (qF (v:= .s s) rfl stE)))))))))))))).trans ?_
  rfl
 ·rfl
theorem fZ(hf:tb.prim nbs=none∧tb.fns nbs=some (Qw te))(hh:h[id]? =some (.cells (some tB) [a, .nils])):Bs tb (BW tb) h nbs [.ptr id 0]=some (.s [],some h):=by
 have hcl:=(Ga hh).1
 obtain⟨f',e1,e2⟩:=vI (tb:=tb) (te:=te) (h:=h) (id:=id) (G:=h) (bv:= .nils) (pv:= .nilp) (n:=0) (s:=[]) (u2:=none) (by simp[load,place,hcl,GI,sub]) rfl rfl (by simp[Bo,Hn]) rfl
 simp only[Bs,hf.1]
 rw[OA,hf.2]
 simp only[Option.bind_some]
 rw[N8 (tb:=tb) (h:=h) (fn:=Qw te) (args:=[.ptr id 0]) rfl rfl e1 (.inl rfl) e2]
 obtain⟨u,hu,rfl⟩:=KN false h.length h rfl [.s []] rfl
 exact congrArg some hu
theorem Aa0(hf:tb.prim nbs=none∧tb.fns nbs=some (Qw te)){r:Nat}{l:AR}(hh:h[id]? =some (.cells (some tB) [a, .orow r l.length 0 l.length]))(hr:h[r]? =some (.row (some te) false 1 (Bp l)))(hl:l≠[])(hm:l.length≤BR):
  Bs tb (BW tb) h nbs [.ptr id 0]=some (.s l,some (h.set r (.row (some te) true 1 (Bp l)))):=by
 have hcl:=(Ga hh).1
 have hrow:=bU hr
 have hpos:0<l.length:=List.length_pos_iff.2 hl
 have htk:(Bp l).take l.length=Bp l:=List.take_of_length_le (by simp[Bp])
 obtain⟨f',e1,e2⟩:=vI (tb:=tb) (te:=te) (h:=h) (id:=id) (G:=h.set r (.row (some te) true 1 (Bp l))) (bv:= .orow r l.length 0 l.length) (pv:= .pe r l.length 0 0) (n:=l.length) (s:=l) (u2:=some (h.set r (.row (some te) true 1 (Bp l))))
  (by simp[load,place,hcl,GI,sub]) (by simp[Bo,hrow.1,JD,hpos]) rfl (by simp[Bo,Hn,hrow.1,hrow.2,JD,hpos,htk,Y6,show(l.length:Int)≤BR by omega]) rfl
 simp only[Bs,hf.1]
 rw[OA,hf.2]
 simp only[Option.bind_some]
 rw[N8 (tb:=tb) (h:=h) (fn:=Qw te) (args:=[.ptr id 0]) rfl rfl e1 (.inl rfl) e2]
 obtain⟨u,hu,rfl⟩:=KN false h.length (h.set r (.row (some te) true 1 (Bp l))) (by simp) [.s l] rfl
 exact congrArg some hu
end
end Go.Proofs.YtobejhpigbllpaaGreatDoor.Am
namespace Go.Proofs.YtobejhpigbllpaaGreatDoor.Am
def NB(tB te:Nat)(g:Bool):Dom where
 α:=AR
 R:=fun F _ H v l=> ∃id,v= .ptr id 0∧((g=false∧l=[]∧ ∃a,(a= .nilp∨a= .ptr id 0)∧H[id]? =some (.cells (some tB) [a, .nils])∧ ∀i,F i↔i=id)∨
  ((g=true∨l≠[])∧ ∃r,r≠id∧H[id]? =some (.cells (some tB) [.ptr id 0, .orow r l.length 0 l.length])∧H[r]? =some (.row (some te) false 1 (Bp l))∧ ∀i,F i↔(i=id∨i=r)))
 lt:=by
  rintro F P H v l ⟨id,_,⟨_,_,a,_,h,hF⟩|⟨_,r,_,h,h',hF⟩⟩ i hi
  ·obtain rfl:=(hF i).1 hi;exact AM h
  ·rcases(hF i).1 hi with rfl|rfl
   ·exact AM h
   ·exact AM h'
 men:=by
  rintro F P H v l m ⟨id,rfl,⟨_,_,a,_,h,hF⟩|⟨_,r,_,h,h',hF⟩⟩ _ hm
  ·exact hm id ((hF id).2 rfl)
  ·exact hm id ((hF id).2 (.inl rfl))
 mono:=by
  rintro F P Q H G v l _ hG ⟨id,hv,⟨h0,h1,a,h2,h,hF⟩|⟨h0,r,h1,h,h',hF⟩⟩
  ·exact⟨id,hv, .inl ⟨h0,h1,a,h2,by rw[hG id ((hF id).2 rfl)];exact h,hF⟩⟩
  ·exact⟨id,hv, .inr ⟨h0,r,h1,by rw[hG id ((hF id).2 (.inl rfl))];exact h,by rw[hG r ((hF r).2 (.inr rfl))];exact h',hF⟩⟩
def wG:Dom where
 α:=Unit
 R:=fun F _ H v _=>(∀i,F i→i<H.length)∧ ∃id,v= .ptr id 0∧F id
 lt:=fun h=>h.1
 men:=by rintro F P H v x m ⟨_,id,rfl,h⟩ _ hm;exact hm id h
 mono:=by
  rintro F P Q H G v x _ hG ⟨h,id,hv,hi⟩
  refine⟨fun i hi=> ?_,id,hv,hi⟩
  have h1:=h i hi
  have h2:=hG i hi
  rw[List.getElem?_eq_getElem h1]at h2
  exact AM h2
theorem MZ(l:AR):C4 (Bp l)=0:=by
 have:=(YG (P:=fun _=>False) (H:=[]) l).men (m:=0) (fun _ h=>h.elim)
 omega
section
variable{tb:CD}{tB te ncc nne nws nwb nbs:Nat}
theorem gB{g:Bool}{F P:Nat→Prop}{H:Av}{v:AV}{l s:AR}(hw:Cw H≤H.length)(h:(NB tB te g).R F P H v l)(hm:l.length+s.length≤BR):
  ∃id G F',v= .ptr id 0∧WK tB te H id s G∧H.length≤G.length∧(∀i,i<H.length→ ¬F i→G[i]? =H[i]?)∧(∀i,F' i→F i∨(H.length≤i∧i<G.length))∧Cw G≤G.length∧ ∀Q,(NB tB te g).R F' Q G v (l++s):=by
 obtain⟨id,hv,⟨h0,h1,a,ha,hh,hF⟩|⟨h0,r,hne,hh,hr,hF⟩⟩:=h
 ·subst h1
  have hid:=AM hh
  by_cases hs:s=[]
  ·subst hs
   refine⟨id,_,F,hv, .none hh ha rfl,by simp,fun i _ hi=>List.getElem?_set_ne fun e=>hi ((hF i).2 e.symm),fun i hi=> .inl hi,?_,fun Q=>⟨id,hv, .inl ⟨h0,rfl,_, .inr rfl,List.getElem?_set_self hid,hF⟩⟩⟩
   simp only[List.length_set]
   exact GN hw (by simp only[DI,Bc,Bz];omega)
  ·refine⟨id,_,fun i=>i=id∨i=H.length,hv, .first hh ha hs (by simpa using hm),by simp,fun i hi hn=> ?_,fun i hi=> ?_,?_,fun Q=>⟨id,hv, .inr ⟨.inr (by simpa using hs),H.length,by omega,?_,?_,fun i=>Iff.rfl⟩⟩⟩
   ·rw[List.getElem?_append_left (by simpa using hi)]
    exact List.getElem?_set_ne fun e=>hn ((hF i).2 e.symm)
   ·rcases hi with rfl|rfl
    ·exact .inl ((hF _).2 rfl)
    ·exact .inr ⟨Nat.le_refl _,by simp⟩
   ·rw[OT]
    have:=GN (l:=H) (i:=id) (o:= .cells (some tB) [.ptr id 0, .orow H.length s.length 0 s.length]) (m:=H.length+1) (by omega) (by simp only[DI,Bc,Bz];omega)
    simp only[Cw,DI,MZ,List.length_append,List.length_set,List.length_cons,List.length_nil]
    omega
   ·rw[List.getElem?_append_left (by simpa using hid),List.nil_append]
    exact List.getElem?_set_self hid
   ·rw[List.getElem?_append_right (by simp)];simp
 ·have hid:=AM hh
  have hrd:=AM hr
  refine⟨id,_,F,hv, .more hh hr hne hm,by simp,fun i _ hi=> ?_,fun i hi=> .inl hi,?_,fun Q=>⟨id,hv, .inr ⟨?_,r,hne,?_,?_,hF⟩⟩⟩
  ·rw[List.getElem?_set_ne (fun e=>hi ((hF i).2 (.inl e.symm))),List.getElem?_set_ne (fun e=>hi ((hF i).2 (.inr e.symm)))]
  ·simp only[List.length_set]
   exact GN (GN hw (by simp only[DI,MZ];omega)) (by simp only[DI,Bc,Bz];omega)
  ·rcases h0 with h0|h0
   ·exact .inl h0
   ·exact .inr (by simp[h0])
  ·exact List.getElem?_set_self (by simpa using hid)
  ·rw[List.getElem?_set_ne (Ne.symm hne)]
   exact List.getElem?_set_self hrd
variable{Γ:Cx}{a b:AO}
theorem kD{d:Nat}{z:List AV}(j:Nat)(te:Nat)(hz:z=[.nilp, .nils])(hj:AG Γ.ss j=none):WG tb Γ (some d) (.alloc tB z) (some ([]:AR)) fun l=>⟨(d, .own j)::Γ.ts,(j, .dom (NB tB te false) l)::Γ.ss⟩:=by
 rintro E rv fp f H R _ ⟨⟩
 subst hz
 obtain⟨rv',fp',h1,h2,h3⟩:=R.more (j:=j) (S:= .dom (NB tB te false) []) (v:= .ptr H.length 0) (o:= .cells (some tB) [.nilp, .nils]) (GO hj) (by simp only[DI,Bc,Bz];omega) rfl (by simp[Bz]) rfl fun rv' fp' e1 e2 hP hs=>
  ⟨H.length,e1, .inl ⟨rfl,rfl, .nilp, .inl rfl,by simp,e2⟩⟩
 exact⟨_,_,rfl,rv',fp',h3.push (d:=d) (φ:= .own j) ⟨h2,h1.symm⟩⟩
theorem Bm.dom{E:Oc}{rv:Nat→AV}{fp:Fp}{f:Fr}{H G:Av}(R:Bm E Γ rv fp f H){j:Nat}{S:CF}{D:Dom}{y:D.α}(hnk:Dn (AG Γ.ss j)=false)(hl:AX Γ.ss j){F':Nat→Prop}(hlen:H.length≤G.length)(hG: ∀i,i<H.length→ ¬fp j i→G[i]? =H[i]?)
  (hF: ∀i,F' i→fp j i∨(H.length≤i∧i<G.length)) (hw:Cw G≤G.length) (hS:S= .dom D y) (hR: ∀Q,D.R F' Q G (rv j) y):
  ∃rv' fp',rv' j=rv j∧AX ((j,S)::Γ.ss) j∧Bm E ⟨Γ.ts,(j,S)::Γ.ss⟩ rv' fp' f G:=by
 subst hS
 exact R.chg (j:=j) (S:= .dom D y) (v:=rv j) (F:=F') (G:=G) hnk rfl hlen (fun i hi hn=>hG i hi (hn hl)) (fun i hi=>(hF i hi).imp (fun h=>⟨hl,h⟩) id) (fun _=> .inl rfl) hw (Nat.le_trans (R.rvlt j hl) hlen) (.inr ((R.scal j hl).resolve_left (by rw[hnk];simp)))
  fun rv' fp' e1 e2 _ _=>by
   show D.R (fp' j) _ G (rv' j) y
   rw[e1,e2];exact hR _
def Le(l s:AR):Option AR:=if l.length+s.length≤BR then some (l++s)else none
theorem WI{g:Bool}{d j:Nat}{l s:AR}(hcc:tb.prim ncc=none∧tb.fns ncc=some (LY tB nne))(hne:tb.prim nne=some NG)(hf:tb.prim nws=none∧tb.fns nws=some (UI te ncc))
  (ha:Cv tb Γ a (.own j)) (hj:AG Γ.ss j=some (.dom (NB tB te g) l)) (hb:Cv tb Γ b (.val A5 s)):
  WG tb Γ (some d) (.call nws [a,b]) (Le l s) fun l'=>⟨(d, .junk)::Γ.ts,(j, .dom (NB tB te g) l')::Γ.ss⟩:=by
 intro E rv fp f H R l' hl'
 simp only[Le]at hl'
 split at hl'
 ·rename_i hm
  cases hl'
  obtain⟨hl,hv⟩:=ha E rv fp f H R
  obtain⟨id,G,F',e,hg,h1,h2,h3,h4,h5⟩:=gB (s:=s) R.wf (R.slots j _ hj) hm
  obtain⟨rv',fp',g1,g2,g3⟩:=R.dom (G:=G) (F':=F') (by rw[hj];rfl) hl h1 h2 h3 h4 rfl h5
  refine⟨.tup [.i .i64 s.length, .nili],some G,?_,rv',fp',g3.push (d:=d) (φ:= .junk) trivial⟩
  simp only[Bo,List.map_cons,List.map_nil,hv,e,DV.1 (hb E rv fp f H R)]
  exact wL hf hcc hne hg
 ·cases hl'
theorem wB{g:Bool}{d j:Nat}{l:AR}{c:UInt8}(hcc:tb.prim ncc=none∧tb.fns ncc=some (LY tB nne))(hne:tb.prim nne=some NG)(hf:tb.prim nwb=none∧tb.fns nwb=some (UJ te ncc))
  (ha:Cv tb Γ a (.own j)) (hj:AG Γ.ss j=some (.dom (NB tB te g) l)) (hb:Cv tb Γ b (.val T.u8 c)):
  WG tb Γ (some d) (.call nwb [a,b]) (Le l [c]) fun l'=>⟨(d, .junk)::Γ.ts,(j, .dom (NB tB te g) l')::Γ.ss⟩:=by
 intro E rv fp f H R l' hl'
 simp only[Le]at hl'
 split at hl'
 ·rename_i hm
  cases hl'
  obtain⟨hl,hv⟩:=ha E rv fp f H R
  obtain⟨id,G,F',e,hg,h1,h2,h3,h4,h5⟩:=gB (s:=[c]) R.wf (R.slots j _ hj) hm
  obtain⟨rv',fp',g1,g2,g3⟩:=R.dom (G:=G) (F':=F') (by rw[hj];rfl) hl h1 h2 h3 h4 rfl h5
  refine⟨.nili,some G,?_,rv',fp',g3.push (d:=d) (φ:= .junk) trivial⟩
  simp only[Bo,List.map_cons,List.map_nil,hv,e,SY.1 (hb E rv fp f H R)]
  exact wM hf hcc hne hg
 ·cases hl'
def aH(g:Bool)(l:AR):Option AR:=if l.length≤BR∧(g=true→l≠[])then some l else none
theorem kC{g:Bool}{d j:Nat}{l:AR}(hf:tb.prim nbs=none∧tb.fns nbs=some (Qw te))(ha:Cv tb Γ a (.own j))(hj:AG Γ.ss j=some (.dom (NB tB te g) l)):
  WG tb Γ (some d) (.call nbs [a]) (aH g l) fun l'=>⟨(d, .val A5 l')::Γ.ts,(j, .dom wG ())::Γ.ss⟩:=by
 intro E rv fp f H R l' hl'
 simp only[aH]at hl'
 split at hl'
 ·rename_i hc
  obtain⟨hm,hg⟩:=hc
  cases hl'
  obtain⟨hl,hv⟩:=ha E rv fp f H R
  have hd:=R.slots j _ hj
  obtain⟨id,e,⟨h0,h1,x,hx,hh,hF⟩|⟨h0,r,hne',hh,hr,hF⟩⟩:=hd
  ·subst h1
   obtain⟨rv',fp',g1,g2,g3⟩:=R.dom (D:=wG) (y:=()) (G:=H) (F':=fp j) (by rw[hj];rfl) hl (Nat.le_refl _) (fun _ _ _=>rfl) (fun i hi=> .inl hi) R.wf rfl (fun Q=>⟨fun i hi=>(R.fplt j i hl hi).1,id,e,(hF id).2 rfl⟩)
   refine⟨.s [],some H,?_,rv',fp',g3.push (d:=d) (φ:= .val A5 []) (DV.2 rfl)⟩
   simp only[Bo,List.map_cons,List.map_nil,hv,e]
   exact fZ hf hh
  ·have hl0:l≠[]:=by
    rcases h0 with h0|h0
    ·exact hg h0
    ·exact h0
   have hrd:=AM hr
   obtain⟨rv',fp',g1,g2,g3⟩:=R.dom (D:=wG) (y:=()) (G:=H.set r (.row (some te) true 1 (Bp l))) (F':=fp j) (by rw[hj];rfl) hl (by simp) (fun i _ hn=>List.getElem?_set_ne fun e=>hn ((hF i).2 (.inr e.symm))) (fun i hi=> .inl hi)
    (by simp only[List.length_set];exact GN R.wf (by simp only[DI,MZ];omega)) rfl (fun Q=>⟨fun i hi=>by simpa using (R.fplt j i hl hi).1,id,e,(hF id).2 (.inl rfl)⟩)
   refine⟨.s l,some (H.set r (.row (some te) true 1 (Bp l))),?_,rv',fp',g3.push (d:=d) (φ:= .val A5 l) (DV.2 rfl)⟩
   simp only[Bo,List.map_cons,List.map_nil,hv,e]
   exact Aa0 hf hh hr hl0 hm
 ·cases hl'
end
end Go.Proofs.YtobejhpigbllpaaGreatDoor.Am
namespace Go.Proofs.YtobejhpigbllpaaGreatDoor.Am
section
variable{tb:CD}{Γ:Cx}{a b:AO}{E:Oc}{rv:Nat→AV}{fp:Fp}{f:Fr}{H:Av}
theorem Qf{n j:Nat}{φ:AJ}(h:B3 Γ.ts n=some (.kv j))(hj:AG Γ.ss j=some (.keep φ)):Cv tb Γ (.t n) φ:=by
 intro E rv fp f H I
 have h1:=(I.temps n _ h).2
 have h2:=(I.slots j _ hj).1
 show FR rv Γ.ss (Pf E Γ.ss fp H) H φ (get f n)
 rw[h1];exact h2
theorem GM{g:Nat}:Cv tb Γ (.f g) (.fnv (.func g) [] []):=fun _ _ _ _ _ _=>⟨fun j hj=>(by cases hj),rfl⟩
theorem Bm.keepNew(I:Bm E Γ rv fp f H){j:Nat}{φ:AJ}{v:AV}(hj:AG Γ.ss j=none)(h:FR rv Γ.ss (Pf E Γ.ss fp H) H φ v)(hv:Bz v≤H.length):
  ∃rv' fp',rv' j=v∧(∀k,k≠j→rv' k=rv k)∧Bm E ⟨Γ.ts,(j, .keep φ)::Γ.ss⟩ rv' fp' f H∧ ∀ψ w,FR rv Γ.ss (Pf E Γ.ss fp H) H ψ w→FR rv' ((j, .keep φ)::Γ.ss) (Pf E ((j, .keep φ)::Γ.ss) fp' H) H ψ w:=by
 have hnl:=GO hj
 let rv':Nat→AV:=fun k=>if k=j then v else rv k
 let fp':Fp:=fun k=>if k=j then fun _=>False else fp k
 have hrj:rv' j=v:=if_pos rfl
 have hfj: ∀i,¬fp' j i:=fun i h=>by simp only[fp',if_true]at h
 have hr: ∀k,k≠j→rv' k=rv k:=fun k hk=>if_neg hk
 have hf: ∀k,k≠j→fp' k=fp k:=fun k hk=>if_neg hk
 have hlv: ∀k,k≠j→(AX ((j, .keep φ)::Γ.ss) k↔AX Γ.ss k):=fun k hk=>Sx hk
 have hne: ∀k,AX Γ.ss k→k≠j:=fun k l e=>hnl (e▸l)
 have hfind: ∀k,k≠j→AG ((j, .keep φ)::Γ.ss) k=AG Γ.ss k:=fun k hk=>by simp only[AG,if_neg (Ne.symm hk)]
 have hP: ∀i,Pf E Γ.ss fp H i→Pf E ((j, .keep φ)::Γ.ss) fp' H i:=by
  rintro i (h|⟨h1,h2,h3⟩)
  ·exact .inl h
  ·refine .inr ⟨h1,h2,fun k l e=> ?_⟩
   by_cases hk:k=j
   ·subst hk;exact hfj i e
   ·rw[hf k hk]at e;exact h3 k ((hlv k hk).1 l) e
 have hsame: ∀ψ,SZ rv rv' Γ.ss ((j, .keep φ)::Γ.ss) ψ:=fun ψ k _ l=>⟨⟨(hlv k (hne k l)).2 l,fun e=>by rw[hfind k (hne k l)];exact e⟩,hr k (hne k l)⟩
 have hFR: ∀ψ w,FR rv Γ.ss (Pf E Γ.ss fp H) H ψ w→FR rv' ((j, .keep φ)::Γ.ss) (Pf E ((j, .keep φ)::Γ.ss) fp' H) H ψ w:=fun ψ w k=>k.mono (fun i hi=>⟨hP i hi,rfl⟩) (hsame ψ)
 refine⟨rv',fp',hrj,hr,⟨I.le,I.base,I.wf,?_,?_,?_,?_,?_,fun t ψ e=>hFR ψ _ (I.temps t ψ e),?_⟩,hFR⟩
 ·intro k i l e
  by_cases hk:k=j
  ·subst hk;exact absurd e (hfj i)
  ·rw[hf k hk]at e;exact I.fplt k i ((hlv k hk).1 l) e
 ·intro k l
  by_cases hk:k=j
  ·subst hk;rw[hrj];exact hv
  ·rw[hr k hk];exact I.rvlt k ((hlv k hk).1 l)
 ·intro k l
  by_cases hk:k=j
  ·subst hk;exact .inl (by simp only[AG,if_true];rfl)
  ·rw[hr k hk,hfind k hk];exact I.scal k ((hlv k hk).1 l)
 ·intro k k' i l l' e e'
  by_cases hk:k=j
  ·subst hk;exact absurd e (hfj i)
  ·by_cases hk':k'=j
   ·subst hk';exact absurd e' (hfj i)
   ·rw[hf k hk]at e
    rw[hf k' hk']at e'
    exact I.inj k k' i ((hlv k hk).1 l) ((hlv k' hk').1 l') e e'
 ·intro k S e
  by_cases hk:k=j
  ·subst hk
   simp only[AG,if_true,Option.some.injEq]at e
   subst e
   exact⟨by rw[hrj];exact hFR φ v h,hfj⟩
  ·rw[hfind k hk]at e
   exact(I.slots k S e).keep (hr k hk) (hf k hk) (fun i hi=>⟨hP i hi,rfl⟩) (Nat.le_refl _) (fun _ _=>rfl) (fun ps _ p _=>hsame p.2) (fun ψ _=>hsame ψ) fun _ _ _=>hsame _
 ·intro k ψ e
  by_cases hk:k=j
  ·subst hk;simp only[AG,if_true]at e;cases e
  ·rw[hfind k hk]at e;exact hFR ψ _ (I.gh k ψ e)
def gD:Nat→List AJ→Ss→Ss
 |_,[],ss=>ss
 |j,φ::l,ss=>gD (j+1) l ((j, .keep φ)::ss)
def SB(ss:Ss):Nat→List AJ→Prop
 |_,[]=>True
 |j,_::l=>AG ss j=none∧SB ss (j+1) l
def gK(rv:Nat→AV)(ss:Ss)(P:Nat→Prop)(H:Av):List AJ→List AV→Prop
 |[],[]=>True
 |φ::l,v::r=>FR rv ss P H φ v∧gK rv ss P H l r
 |_,_=>False
theorem Tu{ss:Ss}{S:CF}{k:Nat}: ∀{l:List AJ} {j:Nat},k<j→SB ss j l→SB ((k,S)::ss) j l
 |[],_,_,_=>trivial
 |_::_,j,hk,h=>⟨by simp only[AG,if_neg (show¬k=j by omega)];exact h.1,Tu (by omega) h.2⟩
theorem gC{k:Nat}: ∀{l:List AJ} {j:Nat} {ss:Ss},k<j→AG (gD j l ss) k=AG ss k
 |[],_,_,_=>rfl
 |φ::l,j,ss,hk=>by
  rw[gD,gC (by omega)]
  simp only[AG,if_neg (show¬j=k by omega)]
theorem Bm.keepL: ∀{l:List AJ} {vs:List AV} {Γ:Cx} {rv:Nat→AV} {fp:Fp} {j:Nat},Bm E Γ rv fp f H→SB Γ.ss j l→gK rv Γ.ss (Pf E Γ.ss fp H) H l vs→(∀v∈vs,Bz v≤H.length)→
  ∃rv' fp',(List.range' j l.length).map rv'=vs∧Mv (gD j l Γ.ss) (List.range' j l.length)∧(∀k,k<j→rv' k=rv k)∧Bm E ⟨Γ.ts,gD j l Γ.ss⟩ rv' fp' f H
 |[],[],Γ,rv,fp,j,I,_,_,_=>⟨rv,fp,rfl,fun _ h=>(by cases h),fun _ _=>rfl,I⟩
 |φ::l,v::vs,Γ,rv,fp,j,I,hf,hv,hm=>by
  obtain⟨rv1,fp1,h1,h2,h3,h4⟩:=I.keepNew hf.1 hv.1 (hm v List.mem_cons_self)
  have key: ∀{l:List AJ} {vs:List AV},gK rv Γ.ss (Pf E Γ.ss fp H) H l vs→gK rv1 ((j, .keep φ)::Γ.ss) (Pf E ((j, .keep φ)::Γ.ss) fp1 H) H l vs:=by
   intro l
   induction l with
   |nil=>intro vs h;cases vs<;>exact h
   |cons ψ l ih=>
    intro vs h
    cases vs with
    |nil=>exact h
    |cons w vs=>exact⟨h4 ψ w h.1,ih h.2⟩
  obtain⟨rv2,fp2,g1,g2,g3,g4⟩:=Bm.keepL (l:=l) (vs:=vs) (j:=j+1) h3 (Tu (by omega) hf.2) (key hv.2) (fun w hw=>hm w (List.mem_cons_of_mem _ hw))
  refine⟨rv2,fp2,?_,fun k hk=> ?_,fun k hk=>by rw[g3 k (by omega),h2 k (by omega)],g4⟩
  ·rw[List.length_cons,List.range'_succ,List.map_cons,g1,g3 j (by omega),h1]
  ·rw[List.length_cons,List.range'_succ]at hk
   rcases List.mem_cons.1 hk with rfl|hk
   ·rw[gD,gC (by omega)];simp only[AG,if_true];rfl
   ·exact g2 k hk
inductive RJ(tb:CD)(Γ:Cx):List AO→List AJ→Prop where
 |nil:RJ tb Γ [] []
 |cons {a:AO} {φ:AJ} {l:List AO} {r:List AJ}:Cv tb Γ a φ→RJ tb Γ l r→RJ tb Γ (a::l) (φ::r)
theorem RJ.spec(I:Bm E Γ rv fp f H): ∀{l:List AO} {r:List AJ},RJ tb Γ l r→gK rv Γ.ss (Pf E Γ.ss fp H) H r (l.map (eval tb f))
 |_,_, .nil=>trivial
 |_,_, .cons h k=>⟨h E rv fp f H I,k.spec I⟩
theorem RJ.length: ∀{l:List AO} {r:List AJ},RJ tb Γ l r→r.length=l.length
 |_,_, .nil=>rfl
 |_,_, .cons _ k=>by simp[k.length]
theorem RJ.app: ∀{l m:List AO} {r q:List AJ},RJ tb Γ l r→RJ tb Γ m q→RJ tb Γ (l++m) (r++q)
 |_,_,_,_, .nil,k=>k
 |_,_,_,_, .cons h k,g=> .cons h (k.app g)
def U9:AJ→Bool
 | .junk=>false
 |_=>true
theorem gK.men(hp: ∀i,Pf E Γ.ss fp H i→i<H.length)(hi: ∀j,AX Γ.ss j→Bz (rv j)≤H.length): ∀{l:List AJ} {vs:List AV},l.all U9=true→gK rv Γ.ss (Pf E Γ.ss fp H) H l vs→ ∀v∈vs,Bz v≤H.length
 |[],[],_,_,v,hv=>by cases hv
 |φ::l,w::vs,hj,h,v,hv=>by
  simp only[List.all_cons,Bool.and_eq_true]at hj
  rcases List.mem_cons.1 hv with rfl|hv
  ·exact FR.men hp hi (by rintro rfl;simp[U9]at hj) h.1
  ·exact gK.men hp hi hj.2 h.2 v hv
def OpN(tb:CD)(Γ:Cx)(d:Option Nat)(o:Hj)(Γ':Cx):Prop:=
 ∀E rv fp f H,Bm E Γ rv fp f H→ ∃v u,Bo tb (BW tb) (eval tb f) H o=some (v,u)∧u.getD H=H∧ ∃rv' fp',Bm E Γ' rv' fp' (put f d v) H
theorem Ij{d:Nat}{fn:Fn}{xs ys:List AO}{φs ψs:List AJ}(j:Nat)(hx:RJ tb Γ xs φs)(hy:RJ tb Γ ys ψs)(hn:(φs++ψs).all U9=true)(hf:SB Γ.ss j (φs++ψs)){js ks:List Nat}(hjs:js=List.range' j φs.length)(hks:ks=List.range' (j+φs.length) ψs.length):
  OpN tb Γ (some d) (.mkf fn xs ys) ⟨(d, .fnv fn js ks)::Γ.ts,gD j (φs++ψs) Γ.ss⟩:=by
 intro E rv fp f H R
 subst hjs hks
 have hv:=(hx.app hy).spec R
 obtain⟨rv',fp',h1,h2,_,h4⟩:=R.keepL (j:=j) hf hv (gK.men R.ltP R.rvlt hn hv)
 rw[List.length_append,←List.range'_append_1]at h1 h2
 rw[List.map_append,List.map_append]at h1
 obtain⟨e1,e2⟩:=List.append_inj h1 (by simp[hx.length])
 refine⟨_,none,rfl,rfl,rv',fp',h4.push (d:=d) (φ:= .fnv fn _ _) ⟨h2,?_⟩⟩
 rw[e1,e2]
def oneS:Option CF→Bool
 |some (.row _ _)=>true
 |some (.rowk _ _)=>true
 |some (.cells _)=>true
 |some (.dom _ _)=>true
 |_=>false
def szF(ss:Ss):AJ→Option Nat
 | .own j=>if oneS (AG ss j)then some 1 else none
 | .val t _=>some t.sz
 | .rp _ _=>some 1
 | .cp _ _=>some 1
 | .ep _ _ _=>some 1
 | .con _=>some 1
 | .fnv _ _ _=>some 1
 |_=>none
def vU:AJ→Bool
 | .val t _=>t.agg
 |_=>false
theorem gZ{P:Nat→Prop}{v:AV}(h:TT P v):cellsOf v=[v]:=by
 cases v<;>simp only[TT]at h<;>rfl
theorem Q0(I:Bm E Γ rv fp f H){φ:AJ}{v:AV}{n:Nat}(hs:szF Γ.ss φ=some n)(h:FR rv Γ.ss (Pf E Γ.ss fp H) H φ v):(cellsOf v).length=n∧GI (vU φ) (cellsOf v)=some v:=by
 cases φ<;>simp only[szF,Option.some.injEq,reduceCtorEq]at hs
 case own j=>
  split at hs
  ·rename_i ho
   cases hs
   obtain⟨l,rfl⟩:=h
   have hsc:=(I.scal j l).resolve_left (by
    intro hk
    cases e:AG Γ.ss j with
    |none=>rw[e]at ho;cases ho
    |some S=>rw[e]at ho hk;cases S<;>simp only[oneS,Dn,Bool.false_eq_true]at ho hk)
   rw[Kt hsc];exact⟨rfl,rfl⟩
  ·cases hs
 ·subst hs
  rename_i t x
  have hc:=T.V.cells h
  refine⟨t.len hc,?_⟩
  rcases h with ⟨ha,cs,rfl,_⟩|⟨ha,hr⟩
  ·simp only[vU,ha];rfl
  ·have:=t.sca hr
   simp only[List.all_cons,List.all_nil,Bool.and_true]at this
   rw[Kt this]
   simp only[vU,ha];rfl
 ·subst hs;rw[gZ h.1];exact⟨rfl,rfl⟩
 ·subst hs;obtain⟨_,id,_,rfl⟩:=h;exact⟨rfl,rfl⟩
 ·subst hs;obtain⟨_,id,m,_,_,rfl⟩:=h;exact⟨rfl,rfl⟩
 ·subst hs;obtain⟨rfl,_,hsc⟩:=h;rw[Kt hsc];exact⟨rfl,rfl⟩
 ·subst hs;obtain⟨_,rfl⟩:=h;exact⟨rfl,rfl⟩
def Vj(ss:Ss):Nat→List (Nat×Nat×AO)→List AJ→Option Nat
 |o,[],[]=>some o
 |o,(o',n,_)::r,φ::l=>if o'=o∧szF ss φ=some n then Vj ss (o+n) r l else none
 |_,_,_=>none
theorem eH(I:Bm E Γ rv fp f H){rho:AO→AV}: ∀{ps:List (Nat×Nat×AO)} {l:List AJ} {o e:Nat} {cs:List AV},Vj Γ.ss o ps l=some e→e=cs.length→gK rv Γ.ss (Pf E Γ.ss fp H) H l (ps.map fun p=>rho p.2.2)→
  Ls cs rho ps=some (cs.take o++(ps.map fun p=>rho p.2.2).flatMap cellsOf)
 |[],[],o,e,cs,h,he,_=>by
  simp only[Vj,Option.some.injEq]at h
  simp only[Ls,List.map_nil,List.flatMap_nil,List.append_nil]
  rw[List.take_of_length_le (by omega)]
 |(o',n,a)::ps,φ::l,o,e,cs,h,he,hv=>by
  simp only[Vj]at h
  split at h
  ·rename_i hc
   obtain⟨rfl,hs⟩:=hc
   obtain⟨h1,_⟩:=Q0 I hs hv.1
   have hle: ∀{ps:List (Nat×Nat×AO)} {l:List AJ} {o e:Nat},Vj Γ.ss o ps l=some e→o≤e:=by
    intro ps
    induction ps with
    |nil=>intro l o e h;cases l<;>simp only[Vj,Option.some.injEq,reduceCtorEq]at h;omega
    |cons q ps ih=>
     intro l o e h
     obtain⟨q1,q2,q3⟩:=q
     cases l with
     |nil=>simp[Vj]at h
     |cons φ l=>
      simp only[Vj]at h
      split at h
      ·have:=ih h;omega
      ·cases h
   have hb:=hle h
   simp only at h1
   simp only[Ls,h1]
   rw[if_pos ⟨trivial,by omega⟩]
   have hlen:(Bq cs o' (cellsOf (rho a))).length=cs.length:=US (by omega)
   rw[eH I h (by rw[hlen];exact he) hv.2]
   simp only[List.map_cons,List.flatMap_cons]
   have ht:(Bq cs o' (cellsOf (rho a))).take (o'+n)=cs.take o'++cellsOf (rho a):=by
    simp only[Bq]
    rw[List.take_left' (by simp only[List.length_append,List.length_take,h1];omega)]
   rw[ht,List.append_assoc]
  ·cases h
 |[],_::_,_,_,_,h,_,_=>by simp[Vj]at h
 |(_,_,_)::_,[],_,_,_,h,_,_=>by simp[Vj]at h
theorem Gz{d:Nat}{zero:List AV}{ps:List (Nat×Nat×AO)}{φs:List AJ}(j:Nat)(hx:RJ tb Γ (ps.map fun p=>p.2.2) φs)(hr:Vj Γ.ss 0 ps φs=some zero.length)(hn:φs.all U9=true)(hf:SB Γ.ss j φs){js:List Nat}(hjs:js=List.range' j φs.length):
  OpN tb Γ (some d) (.bld zero ps) ⟨(d, .aggk js)::Γ.ts,gD j φs Γ.ss⟩:=by
 intro E rv fp f H R
 subst hjs
 have hv:=hx.spec R
 rw[List.map_map]at hv
 have hfill:=eH R (rho:=eval tb f) hr rfl hv
 obtain⟨rv',fp',h1,h2,_,h4⟩:=R.keepL (j:=j) hf hv (gK.men R.ltP R.rvlt hn hv)
 refine⟨.agg (zero.take 0++(ps.map fun p=>eval tb f p.2.2).flatMap cellsOf),none,by simp only[Bo,hfill,val,Option.map_some],rfl,rv',fp',h4.push (d:=d) (φ:= .aggk _) ⟨h2,?_⟩⟩
 have e:((List.range' j φs.length).flatMap fun j=>cellsOf (rv' j))=((List.range' j φs.length).map rv').flatMap cellsOf:=by rw[List.flatMap_map]
 rw[e,h1,List.take_zero,List.nil_append]
 rfl
def sU(ss:Ss):List Nat→Option Nat
 |[]=>some 0
 |j::r=>match AG ss j with
  |some (.keep φ)=>(szF ss φ).bind fun n=>(sU ss r).map (n+ ·)
  |_=>none
theorem Yg(I:Bm E Γ rv fp f H): ∀{l:List Nat} {o:Nat},sU Γ.ss l=some o→(l.flatMap fun j=>cellsOf (rv j)).length=o
 |[],o,h=>by simp only[sU,Option.some.injEq]at h;subst h;rfl
 |j::l,o,h=>by
  simp only[sU]at h
  split at h
  ·rename_i φ e
   obtain⟨n,hn,h⟩:=Option.bind_eq_some_iff.1 h
   obtain⟨m,hm,rfl⟩:=Option.map_eq_some_iff.1 h
   rw[List.flatMap_cons,List.length_append,Yg I hm,(Q0 I hn (I.slots j _ e).1).1]
  ·cases h
theorem VP{l r:List Nat}{j off n:Nat}{ag:Bool}{φ:AJ}(ha:Cv tb Γ a (.aggk (l++j::r)))(hl:sU Γ.ss l=some off)(hj:AG Γ.ss j=some (.keep φ))(hn:szF Γ.ss φ=some n)(hag:ag=vU φ):Fi tb Γ (.fld ag off n a) (some ()) fun _=> .kv j:=by
 rintro E rv fp f H R _ ⟨⟩
 obtain⟨hk,hv⟩:=ha E rv fp f H R
 have h1:=Yg R hl
 obtain⟨h2,h3⟩:=Q0 R hn (R.slots j _ hj).1
 rw[List.flatMap_append,List.flatMap_cons]at hv
 subst hag
 have hsub:sub ((l.flatMap fun j=>cellsOf (rv j))++(cellsOf (rv j)++r.flatMap fun j=>cellsOf (rv j))) off n=cellsOf (rv j):=by
  simp only[sub]
  rw[List.drop_left' h1,List.take_left' h2]
 refine⟨rv j,none,?_,rfl,fun k hk'=>by rw[List.mem_singleton.1 hk',hj];rfl,rfl⟩
 simp only[Bo,hv,hsub,h3,val,Option.map_some]
 rw[if_pos (by simp only[List.length_append,h1,h2];omega)]
variable{ks:List Kf}{ρ:Type}{Q:Lf ρ}
def BA{q:Bool}{d:Option Nat}{o:Hj}{l:List AQ}{Γ':Cx}(h:OpN tb Γ d o Γ')(k:Aa tb Γ' (rg q l) ks Q):Aa tb Γ (rg q (⟨d,none,o⟩::l)) ks Q:=
 ⟨k.m,fun E f H ⟨rv,fp,I⟩ r hr=>by
  obtain⟨v,u,h1,h2,rv',fp',h3⟩:=h E rv fp f H I
  obtain⟨e,f',H',h4,h5⟩:=k.ok E _ _ ⟨rv',fp',h3⟩ r hr
  exact⟨e,f',H',by rw[EN h1 h2];exact h4,h5⟩⟩
end
end Go.Proofs.YtobejhpigbllpaaGreatDoor.Am
namespace Go.Proofs.YtobejhpigbllpaaGreatDoor.Am
inductive WM where
 |o (a:AO)
 |k (j:Nat)
def bE(tb:CD)(f:Fr)(rv:Nat→AV):WM→AV
 | .o a=>eval tb f a
 | .k j=>rv j
def OpS(tb:CD)(Γ:Cx)(s:WM)(φ:AJ):Prop:= ∀E rv fp f H,Bm E Γ rv fp f H→FR rv Γ.ss (Pf E Γ.ss fp H) H φ (bE tb f rv s)
inductive XC(tb:CD)(Γ:Cx):List WM→List AJ→Prop where
 |nil:XC tb Γ [] []
 |cons {s:WM} {φ:AJ} {l:List WM} {r:List AJ}:OpS tb Γ s φ→XC tb Γ l r→XC tb Γ (s::l) (φ::r)
def RM(tb:CD)(Γ:Cx)(o:Hj)(g:Nat)(l:List WM):Prop:=
 ∀E rv fp f H,Bm E Γ rv fp f H→Bo tb (BW tb) (eval tb f) H o=Bs tb (BW tb) H g (l.map (bE tb f rv))
section
variable{tb:CD}{Γ:Cx}{a b:AO}{E:Oc}{rv:Nat→AV}{fp:Fp}{f:Fr}{H:Av}
theorem MP{φ:AJ}(h:Cv tb Γ a φ):OpS tb Γ (.o a) φ:=h
theorem s_k{j:Nat}{φ:AJ}(hj:AG Γ.ss j=some (.keep φ)):OpS tb Γ (.k j) φ:=fun _ _ _ _ _ I=>(I.slots j _ hj).1
theorem Fg{g:Nat}{xs:List AO}{l:List WM}(hl:l=xs.map .o):RM tb Γ (.call g xs) g l:=by
 intro E rv fp f H I
 subst hl
 simp only[Bo,List.map_map];rfl
theorem Gd{g:Nat}{x:AO}{xs:List AO}{js ks:List Nat}{l:List WM}(ha:Cv tb Γ x (.fnv (.func g) js ks))(hl:l=js.map .k++xs.map .o++ks.map .k):RM tb Γ (.callv x xs) g l:=by
 intro E rv fp f H I
 subst hl
 simp only[Bo,(ha E rv fp f H I).2,List.map_append,List.map_map];rfl
theorem XC.spec(I:Bm E Γ rv fp f H): ∀{l:List WM} {r:List AJ},XC tb Γ l r→gK rv Γ.ss (Pf E Γ.ss fp H) H r (l.map (bE tb f rv))
 |_,_, .nil=>trivial
 |_,_, .cons h k=>⟨h E rv fp f H I,k.spec I⟩
def SV:Nat→List AJ→Ts
 |_,[]=>[]
 |k,φ::r=>(k,φ)::SV (k+1) r
def Jh(vs:List AV)(k:Nat):Fr:=(vs.zipIdx k).map fun p=>(p.2,p.1)
theorem RC{P:Nat→Prop}{ss:Ss}: ∀{r:List AJ} {vs:List AV} {k:Nat},gK rv ss P H r vs→ ∀t φ,B3 (SV k r) t=some φ→k≤t∧FR rv ss P H φ (get (Jh vs k) t)
 |[],[],_,_,t,φ,e=>by simp[SV,B3]at e
 |ψ::r,v::vs,k,h,t,φ,e=>by
  simp only[SV,B3]at e
  simp only[Jh,List.zipIdx_cons,List.map_cons,get]
  split at e
  ·rename_i hk
   cases e
   subst hk
   exact⟨Nat.le_refl _,by rw[if_pos rfl];exact h.1⟩
  ·rename_i hk
   obtain⟨h1,h2⟩:=RC (k:=k+1) h.2 t φ e
   exact⟨by omega,by rw[if_neg hk];exact h2⟩
def EV(J:Nat):Ts→Ss→Ss
 |[],ss=>ss
 |(t,φ)::r,ss=>(J+t, .ghost φ)::EV J r ss
def Ni(Γ:Cx)(J:Nat):Ts→Prop
 |[]=>True
 |(t,φ)::r=>(B3 Γ.ts t=some φ∧AG Γ.ss (J+t)=none)∧Ni Γ J r
def H7(J:Nat):Ss→Bool
 |[]=>true
 |(j, .ghost _)::r=>Nat.blt j J&&H7 J r
 |_::r=>H7 J r
theorem Nj{J:Nat}: ∀{ss:Ss} {j:Nat} {φ:AJ},H7 J ss=true→AG ss j=some (.ghost φ)→j<J
 |[],_,_,_,e=>by simp[AG]at e
 |(u,S)::r,j,φ,h,e=>by
  simp only[AG]at e
  split at e
  ·rename_i hu
   cases e
   simp only[H7,Bool.and_eq_true]at h
   have:=h.1
   rw[RA]at this
   omega
  ·refine Nj (ss:=r) ?_ e
   cases S<;>simp only[H7,Bool.and_eq_true]at h<;>first|exact h.2|exact h
theorem J6{J:Nat}{ss:Ss}: ∀{l:Ts} {j:Nat},AG (EV J l ss) j=AG ss j∨ ∃t φ,j=J+t∧B3 l t=some φ∧AG (EV J l ss) j=some (.ghost φ)
 |[],_=> .inl rfl
 |(t,φ)::r,j=>by
  simp only[EV,AG]
  by_cases hj:J+t=j
  ·rw[if_pos hj]
   exact .inr ⟨t,φ,hj.symm,by simp[B3],rfl⟩
  ·rw[if_neg hj]
   rcases J6 (J:=J) (ss:=ss) (l:=r) (j:=j)with h|⟨t',φ',h1,h2,h3⟩
   ·exact .inl h
   ·refine .inr ⟨t',φ',h1,?_,h3⟩
    simp only[B3]
    rw[if_neg (fun e=>hj (by rw[h1,e]))]
    exact h2
theorem Km{J:Nat}: ∀{l:Ts} {t:Nat} {φ:AJ},Ni Γ J l→B3 l t=some φ→B3 Γ.ts t=some φ∧AG Γ.ss (J+t)=none
 |[],_,_,_,e=>by simp[B3]at e
 |(u,ψ)::r,t,φ,h,e=>by
  simp only[B3]at e
  split at e
  ·rename_i hu
   cases e
   subst hu
   exact h.1
  ·exact Km h.2 e
theorem Bm.enter(I:Bm E Γ rv fp f H){J:Nat}{L:Ts}{srcs:List WM}{φs:List AJ}(hL:Ni Γ J L)(hg:H7 J Γ.ss=true)(ha:XC tb Γ srcs φs):
  Bm {E with g:=fun j=>if J≤j then get f (j-J)else E.g j} ⟨SV 0 φs,EV J L Γ.ss⟩ rv fp (Jh (srcs.map (bE tb f rv)) 0) H:=by
 have hlv: ∀k,AX (EV J L Γ.ss) k↔AX Γ.ss k:=by
  intro k
  rcases J6 (J:=J) (ss:=Γ.ss) (l:=L) (j:=k)with h|⟨t,φ,rfl,h2,h3⟩
  ·simp only[AX,h]
  ·have:=(Km hL h2).2
   simp only[AX,h3,this,tI]
 have hkeep: ∀k,Dn (AG (EV J L Γ.ss) k)=Dn (AG Γ.ss k):=by
  intro k
  rcases J6 (J:=J) (ss:=Γ.ss) (l:=L) (j:=k)with h|⟨t,φ,rfl,h2,h3⟩
  ·rw[h]
  ·rw[h3,(Km hL h2).2];rfl
 have hP: ∀i,Pf E Γ.ss fp H i→Pf E (EV J L Γ.ss) fp H i:=fun i=>Pf.same fun k l=>(hlv k).1 l
 have hFR: ∀φ v,FR rv Γ.ss (Pf E Γ.ss fp H) H φ v→FR rv (EV J L Γ.ss) (Pf E (EV J L Γ.ss) fp H) H φ v:=fun φ v h=>
  h.mono (fun i hi=>⟨hP i hi,rfl⟩) fun k _ l=>⟨⟨(hlv k).2 l,fun e=>by rw[hkeep];exact e⟩,rfl⟩
 have hFRs: ∀{l:List AJ} {vs:List AV},gK rv Γ.ss (Pf E Γ.ss fp H) H l vs→gK rv (EV J L Γ.ss) (Pf E (EV J L Γ.ss) fp H) H l vs:=by
  intro l
  induction l with
  |nil=>intro vs h;cases vs<;>exact h
  |cons φ l ih=>
   intro vs h
   cases vs with
   |nil=>exact h
   |cons v vs=>exact⟨hFR φ v h.1,ih h.2⟩
 refine⟨I.le,I.base,I.wf,fun j i l e=>I.fplt j i ((hlv j).1 l) e,fun j l=>I.rvlt j ((hlv j).1 l),fun j l=>(I.scal j ((hlv j).1 l)).imp (fun e=>by rw[hkeep];exact e) id,fun j k i l l'=>I.inj j k i ((hlv j).1 l) ((hlv k).1 l'),?_,?_,?_⟩
 ·intro j S e
  rcases J6 (J:=J) (ss:=Γ.ss) (l:=L) (j:=j)with h|⟨t,φ,rfl,h2,h3⟩
  ·replace e:AG (EV J L Γ.ss) j=some S:=e
   rw[h]at e
   exact(I.slots j S e).keep rfl rfl (fun i hi=>⟨hP i hi,rfl⟩) (Nat.le_refl _) (fun _ _=>rfl) (fun _ _ _ _ k _ l=>⟨⟨(hlv k).2 l,fun e=>by rw[hkeep];exact e⟩,rfl⟩) (fun _ _ k _ l=>⟨⟨(hlv k).2 l,fun e=>by rw[hkeep];exact e⟩,rfl⟩) (fun _ _ _ k _ l=>⟨⟨(hlv k).2 l,fun e=>by rw[hkeep];exact e⟩,rfl⟩)
  ·replace e:AG (EV J L Γ.ss) (J+t)=some S:=e
   rw[h3]at e;cases e;trivial
 ·intro t φ e
  exact(RC (hFRs (ha.spec I)) t φ e).2
 ·intro j φ e
  show FR rv (EV J L Γ.ss) _ H φ (if J≤j then get f (j-J)else E.g j)
  rcases J6 (J:=J) (ss:=Γ.ss) (l:=L) (j:=j)with h|⟨t,ψ,rfl,h2,h3⟩
  ·replace e:AG (EV J L Γ.ss) j=some (.ghost φ):=e
   rw[h]at e
   have:=Nj hg e
   rw[if_neg (by omega)]
   exact hFR φ _ (I.gh j φ e)
  ·replace e:AG (EV J L Γ.ss) (J+t)=some (.ghost φ):=e
   rw[h3]at e
   cases e
   rw[if_pos (by omega),show J+t-J=t by omega]
   exact hFR _ _ (I.temps t _ (Km hL h2).1)
def QIn{τ:Type}(res:List JZ)(Γr:τ→Cx):Lf τ:=fun E p e f H=>
 (e= .ret∨e= .normal)∧ ∃vs,results f H res=some vs∧Rel E (Γr p) (Jh vs 0) H
def ResG(Γ:Cx)(a:JZ)(φ:AJ):Prop:= ∀E rv fp f H,Bm E Γ rv fp f H→ ∀r vs,results f H r=some vs→ ∃v,results f H (a::r)=some (v::vs)∧FR rv Γ.ss (Pf E Γ.ss fp H) H φ v
inductive kB(Γ:Cx):List JZ→List AJ→Prop where
 |nil:kB Γ [] []
 |cons {a:JZ} {φ:AJ} {l:List JZ} {r:List AJ}:ResG Γ a φ→kB Γ l r→kB Γ (a::l) (φ::r)
theorem kB.spec(I:Bm E Γ rv fp f H): ∀{l:List JZ} {r:List AJ},kB Γ l r→ ∃vs,results f H l=some vs∧gK rv Γ.ss (Pf E Γ.ss fp H) H r vs
 |_,_, .nil=>⟨[],rfl,trivial⟩
 |_,_, .cons h k=>by
  obtain⟨vs,e,g⟩:=k.spec I
  obtain⟨v,e',g'⟩:=h E rv fp f H I _ vs e
  exact⟨v::vs,e',g',g⟩
theorem yC{n:Nat}{φ:AJ}(h:B3 Γ.ts n=some φ):ResG Γ (.tmp n) φ:=fun _ _ _ _ _ I r vs hr=>⟨_,by simp only[results,hr,Option.map_some],I.temps n _ h⟩
variable{ks:List Kf}{ρ τ:Type}{Q:Lf ρ}
def Bg{res:List JZ}{Γr:τ→Cx}{φs:List AJ}(p:τ)(h:kB Γ res φs)(hs:Sub (Γr p) ⟨SV 0 φs,Γ.ss⟩):Aa tb Γ .ret ks (QIn res Γr):=
 WF ⟨some p,fun E f H ⟨rv,fp,I⟩ r hr=>by
  cases hr
  obtain⟨vs,e,g⟩:=h.spec I
  refine⟨.ret,f,H,by simp[AS,HN], .inl rfl,vs,e,rv,fp,Bm.sub (Γ:=⟨SV 0 φs,Γ.ss⟩) ?_ hs⟩
  exact⟨I.le,I.base,I.wf,I.fplt,I.rvlt,I.scal,I.inj,I.slots,fun t φ e=>(RC g t φ e).2,I.gh⟩⟩
def YJ{q:Bool}{res:List JZ}{Γr:τ→Cx}{φs:List AJ}(p:τ)(h:kB Γ res φs)(hs:Sub (Γr p) ⟨SV 0 φs,Γ.ss⟩):Aa tb Γ (rg q []) [] (QIn res Γr):=
 ⟨some p,fun E f H ⟨rv,fp,I⟩ r hr=>by
  cases hr
  obtain⟨vs,e,g⟩:=h.spec I
  refine⟨.normal,f,H,by simp[Dd,HN], .inr rfl,vs,e,rv,fp,Bm.sub (Γ:=⟨SV 0 φs,Γ.ss⟩) ?_ hs⟩
  exact⟨I.le,I.base,I.wf,I.fplt,I.rvlt,I.scal,I.inj,I.slots,fun t φ e=>(RC g t φ e).2,I.gh⟩⟩
inductive RN(tsr:Ts):Nat→AJ→Prop where
 |none:RN tsr 0 (.tup [])
 |one {φ:AJ}:B3 tsr 0=some φ→RN tsr 1 φ
 |vals {n:Nat} {l:List (Σ t:T,t.α)} (hn:l.length=n+2) (h: ∀(i:Nat) (p: Σ t:T,t.α),l[i]? =some p→B3 tsr i=some (.val p.1 p.2)):RN tsr (n+2) (.tup l)
 |kvs {n:Nat} {js:List Nat} (hn:js.length=n+2) (h: ∀i j,js[i]? =some j→B3 tsr i=some (.kv j)):RN tsr (n+2) (.tupk js)
 |junk {n:Nat}:RN tsr n .junk
theorem O6{vs:List AV}{i:Nat}{v:AV}(h:vs[i]? =some v):get (Jh vs 0) i=v:=by
 have key: ∀(vs:List AV) (k i:Nat) (v:AV),vs[i]? =some v→get (Jh vs k) (k+i)=v:=by
  intro vs
  induction vs with
  |nil=>intro k i v h;simp at h
  |cons w vs ih=>
   intro k i v h
   simp only[Jh,List.zipIdx_cons,List.map_cons,get]
   cases i with
   |zero=>simp only[List.getElem?_cons_zero,Option.some.injEq]at h;rw[if_pos (by omega)];exact h
   |succ i=>
    rw[if_neg (by omega)]
    have:=ih (k+1) i v (by simpa using h)
    rw[show k+(i+1)=k+1+i by omega]
    exact this
 have:=key vs 0 i v h
 rwa [Nat.zero_add]at this
theorem RN.spec{Γr:Cx}{n:Nat}{φ:AJ}{vs:List AV}(I:Bm E Γr rv fp (Jh vs 0) H)(hn:vs.length=n)(h:RN Γr.ts n φ):FR rv Γr.ss (Pf E Γr.ss fp H) H φ (FL vs):=by
 cases h with
 |none=>
  have:vs=[]:=List.eq_nil_of_length_eq_zero hn
  subst this
  exact⟨[],rfl,trivial⟩
 |one h=>
  match vs,hn with
  |[v],_=>
   have:=I.temps 0 _ h
   rw[O6 (i:=0) (v:=v) rfl]at this
   exact this
 | @vals m l hl h=>
  have hp:FL vs= .tup vs:=by
   match vs,hn with
   |_::_::_,_=>rfl
  rw[hp]
  refine⟨vs,rfl,?_⟩
  have key: ∀(vs:List AV) (l:List (Σ t:T,t.α)),vs.length=l.length→(∀(i:Nat) (v:AV) (p: Σ t:T,t.α),vs[i]? =some v→l[i]? =some p→p.1.V (Pf E Γr.ss fp H) H v p.2)→U0 (Pf E Γr.ss fp H) H vs l:=by
   intro vs
   induction vs with
   |nil=>intro l h _;cases l<;>first|trivial|simp at h
   |cons v vs ih=>
    intro l h g
    cases l with
    |nil=>simp at h
    |cons p l=>exact⟨g 0 v p rfl rfl,ih l (by simpa using h) fun i w q a b=>g (i+1) w q (by simpa using a) (by simpa using b)⟩
  refine key vs l (by omega) fun i v p a b=> ?_
  have:=I.temps i _ (h i p b)
  rw[O6 a]at this
  exact this
 | @kvs m js hl h=>
  have hp:FL vs= .tup vs:=by
   match vs,hn with
   |_::_::_,_=>rfl
  rw[hp]
  have hv:vs=js.map rv:=by
   apply List.ext_getElem?
   intro i
   rcases Nat.lt_or_ge i vs.length with hi|hi
   ·have hj:i<js.length:=by omega
    have:=(I.temps i _ (h i js[i] (List.getElem?_eq_getElem hj))).2
    rw[O6 (List.getElem?_eq_getElem hi)]at this
    rw[List.getElem?_eq_getElem hi,List.getElem?_map,List.getElem?_eq_getElem hj,this];rfl
   ·rw[List.getElem?_eq_none hi,List.getElem?_eq_none (by rw[List.length_map];omega)]
  refine⟨fun j hj=> ?_,by rw[hv]⟩
  obtain⟨i,hi,rfl⟩:=List.mem_iff_getElem.1 hj
  exact(I.temps i _ (h i _ (List.getElem?_eq_getElem hi))).1 _ (by simp)
 |junk=>trivial
def YB(Γr:Cx)(ss:Ss)(J:Nat):Ts→Prop
 |[]=>True
 |(t,φ)::r=>(AG Γr.ss (J+t)=some (.ghost φ)∧Lj ss φ)∧YB Γr ss J r
structure BU(Γr Γk:Cx)(J:Nat)(d:Option Nat)(n:Nat):Prop where
 ss:qC Γr Γk.ss Γk.ss
 gl:H7 J Γk.ss=true
 ts:match d with
  |none=>YB Γr Γk.ss J Γk.ts
  |some d=> ∃φ r,Γk.ts=(d,φ)::r∧RN Γr.ts n φ∧Lj Γk.ss φ∧YB Γr Γk.ss J r
theorem AW{Γr:Cx}{ss:Ss}{J d n:Nat}{φ:AJ}{r:Ts}(h1:qC Γr ss ss)(h2:H7 J ss=true)(h3:RN Γr.ts n φ)(h4:Lj ss φ)(h5:YB Γr ss J r):BU Γr ⟨(d,φ)::r,ss⟩ J (some d) n:=⟨h1,h2,φ,r,rfl,h3,h4,h5⟩
theorem W5{Γr:Cx}{ss:Ss}{J:Nat}: ∀{l:Ts} {t:Nat} {φ:AJ},YB Γr ss J l→B3 l t=some φ→AG Γr.ss (J+t)=some (.ghost φ)∧Lj ss φ
 |[],_,_,_,e=>by simp[B3]at e
 |(u,ψ)::r,t,φ,h,e=>by
  simp only[B3]at e
  split at e
  ·rename_i hu;cases e;subst hu;exact h.1
  ·exact W5 h.2 e
theorem Bm.back{Γr Γk:Cx}{J n:Nat}{d:Option Nat}{vs:List AV}{f:Fr}(I:Bm {E with g:=fun j=>if J≤j then get f (j-J)else E.g j} Γr rv fp (Jh vs 0) H)(hn:vs.length=n)(hb:BU Γr Γk J d n):
  Bm E Γk rv fp (put f d (FL vs)) H:=by
 have S:Sub ⟨[],Γk.ss⟩ Γr:=⟨trivial,hb.ss⟩
 have I0:=I.sub S
 have hlv: ∀k,AX Γk.ss k→AX Γr.ss k:=by
  intro k l
  cases e:AG Γk.ss k with
  |none=>simp only[AX,e]at l;exact l.elim
  |some S=>
   have:=(HU hb.ss e).1
   simp only[AX,e]at l
   simp only[AX,this];exact l
 have hP: ∀i,Pf E Γr.ss fp H i→Pf E Γk.ss fp H i:=fun i=>Pf.same hlv
 have hsame: ∀φ,Lj Γk.ss φ→SZ rv rv Γr.ss Γk.ss φ:=fun φ r j hj l=>by
  have hl:=(Vp r j hj).1
  refine⟨⟨hl,fun e=> ?_⟩,rfl⟩
  cases e':AG Γk.ss j with
  |none=>simp only[AX,e']at hl;exact hl.elim
  |some S=>rw[(HU hb.ss e').1]at e;exact e
 have hFR: ∀φ v,Lj Γk.ss φ→FR rv Γr.ss (Pf E Γr.ss fp H) H φ v→FR rv Γk.ss (Pf E Γk.ss fp H) H φ v:=fun φ v r h=>h.mono (fun i hi=>⟨hP i hi,rfl⟩) (hsame φ r)
 have hback: ∀{l:Ts},YB Γr Γk.ss J l→ ∀t φ,B3 l t=some φ→FR rv Γk.ss (Pf E Γk.ss fp H) H φ (get f t):=by
  intro l hl t φ e
  obtain⟨h1,h2⟩:=W5 hl e
  have:=I.gh _ _ h1
  simp only[if_pos (show J≤J+t by omega),show J+t-J=t by omega]at this
  exact hFR φ _ h2 this
 refine⟨I0.le,I0.base,I0.wf,I0.fplt,I0.rvlt,I0.scal,I0.inj,I0.slots,?_,?_⟩
 ·intro t φ e
  have hts:=hb.ts
  cases d with
  |none=>exact hback hts t φ e
  |some d=>
   obtain⟨ψ,r,hr,h1,h2,h3⟩:=hts
   rw[hr]at e
   simp only[B3]at e
   simp only[put,get]
   split at e
   ·rename_i hd
    cases e
    rw[if_pos hd]
    have h1':=h1.spec I hn
    exact hFR _ _ h2 h1'
   ·rename_i hd
    rw[if_neg hd]
    exact hback h3 t φ e
 ·intro j φ e
  have h1:=Nj hb.gl e
  have:=I0.gh j φ e
  simp only[if_neg (show¬J≤j by omega)]at this
  exact this
structure kE(tb:CD){τ:Type}(Γk:τ→Cx)(c:AC)(ks:List Kf){ρ:Type}(Q:Lf ρ) where
 m:τ→Option ρ
 ok: ∀p E f H,Rel E (Γk p) f H→ ∀r,m p=some r→ ∃e f' H',(AS tb (BW tb) c f H).bind (HN tb ks)=some (e,f',H')∧Q E r e f' H'
def kE.one{Γk:τ→Cx}{c:AC}(k:(p:τ)→Aa tb (Γk p) c ks Q):kE tb Γk c ks Q:=⟨fun p=>(k p).m,fun p=>(k p).ok⟩
def kE.alt{σ:Type}{Γ1:τ→Cx}{Γ2:σ→Cx}{c:AC}(k1:kE tb Γ1 c ks Q)(k2:kE tb Γ2 c ks Q):kE tb (Sum.elim Γ1 Γ2) c ks Q:=
 ⟨Sum.elim k1.m k2.m,fun p=>match p with
  | .inl p=>k1.ok p
  | .inr p=>k2.ok p⟩
theorem LH{σ:Type}{Γ1 Δ1:τ→Cx}{Γ2 Δ2:σ→Cx}{J n:Nat}{d:Option Nat}(h1: ∀p,BU (Γ1 p) (Δ1 p) J d n)(h2: ∀p,BU (Γ2 p) (Δ2 p) J d n): ∀p,BU (Sum.elim Γ1 Γ2 p) (Sum.elim Δ1 Δ2 p) J d n
 | .inl p=>h1 p
 | .inr p=>h2 p
theorem Ol: ∀{l:List JZ} {vs:List AV},results f H l=some vs→vs.length=l.length
 |[],vs,h=>by simp only[results,Option.some.injEq]at h;subst h;rfl
 | .tmp t::r,vs,h=>by
  simp only[results]at h
  obtain⟨v,hv,rfl⟩:=Option.map_eq_some_iff.1 h
  simp[Ol hv]
 | .cell ag n t::r,vs,h=>by
  simp only[results]at h
  obtain⟨w,hw,h⟩:=Option.bind_eq_some_iff.1 h
  obtain⟨v,hv,rfl⟩:=Option.map_eq_some_iff.1 h
  simp[Ol hv]
theorem tW{g:Nat}{fn:Dx}{o:Hj}{d:Option Nat}{srcs:List WM}{φs:List AJ}{J n:Nat}{L:Ts}{Γr Γk:τ→Cx}(hf:tb.prim g=none∧tb.fns g=some fn)(hw:fn.warm=true)(hnp:fn.np=srcs.length)(hn:n=fn.res.length)
  (hc:RM tb Γ o g srcs) (ha:XC tb Γ srcs φs) (hL:Ni Γ J L) (hg:H7 J Γ.ss=true) (s:Aa tb ⟨SV 0 φs,EV J L Γ.ss⟩ fn.body [] (QIn fn.res Γr)) (hb: ∀p,BU (Γr p) (Γk p) J d n) (I:Bm E Γ rv fp f H) {p:τ} (hp:s.m=some p):
  ∃v H',Bo tb (BW tb) (eval tb f) H o=some (v,some H')∧Rel E (Γk p) (put f d v) H':=by
 have R:=I.enter (tb:=tb) hL hg ha
 obtain⟨e,f',H',h1,h2,vs,h3,rv',fp',h4⟩:=s.ok _ _ _ ⟨_,_,R⟩ p hp
 have h1':AS tb (BW tb) fn.body (Jh (srcs.map (bE tb f rv)) 0) H=some (e,f',H'):=by
  obtain⟨q,hq,h1⟩:=Option.bind_eq_some_iff.1 h1
  rw[hq,←h1];rfl
 have hbody:body tb (BW tb) fn (srcs.map (bE tb f rv)) H=some (FL vs,some H'):=by
  have:=N8 (tb:=tb) (h:=H) (fn:=fn) (args:=srcs.map (bE tb f rv)) (by rw[List.length_map,hnp]) rfl h1' h2 h3
  rw[this,hw];rfl
 refine⟨FL vs,H',?_,rv',fp',h4.back (by rw[hn];exact Ol h3) (hb p)⟩
 rw[hc E rv fp f H I]
 simp only[Bs,hf.1]
 rw[OA,hf.2]
 exact hbody
def Aa.inl{g:Nat}{fn:Dx}{o:Hj}{d:Option Nat}{rest:List AQ}{srcs:List WM}{φs:List AJ}{n:Nat}{L:Ts}{Γr:τ→Cx}(J:Nat)(Γk:τ→Cx)(hf:tb.prim g=none∧tb.fns g=some fn)(hw:fn.warm=true)(hnp:fn.np=srcs.length)(hn:n=fn.res.length)
  (hc:RM tb Γ o g srcs) (ha:XC tb Γ srcs φs) (hL:Ni Γ J L) (hg:H7 J Γ.ss=true) (s:Aa tb ⟨SV 0 φs,EV J L Γ.ss⟩ fn.body [] (QIn fn.res Γr)) (hb: ∀p,BU (Γr p) (Γk p) J d n) (k:kE tb Γk (rg false rest) ks Q):Aa tb Γ (rg false (⟨d,none,o⟩::rest)) ks Q:=
 ⟨s.m.bind k.m,fun E f H ⟨rv,fp,I⟩ r hr=>by
  obtain⟨p,hp,hr⟩:=Option.bind_eq_some_iff.1 hr
  obtain⟨v,H',h1,h2⟩:=tW hf hw hnp hn hc ha hL hg s hb I hp
  obtain⟨e,f',H2,h4,h5⟩:=k.ok p E _ _ h2 r hr
  exact⟨e,f',H2,by rw[Ji h1];exact h4,h5⟩⟩
def A8.inl{g:Nat}{fn:Dx}{o:Hj}{d:Option Nat}{rest:List AQ}{w:List (Option (Nat×Nat))}{N k:Nat}{B:List Ob}{C C':List Cb}{srcs:List WM}{φs:List AJ}{n:Nat}{L:Ts}{Γr:τ→Cx}(hq:jR B C' d=true)(hcn:JY Γ k C C')(J:Nat)(Γk:τ→Cx)(hO: ∀p,WH tb (Γk p) B)(hf:tb.prim g=none∧tb.fns g=some fn)(hw:fn.warm=true)(hnp:fn.np=srcs.length)(hn:n=fn.res.length)
  (hc:RM tb Γ o g srcs) (ha:XC tb Γ srcs φs) (hL:Ni Γ J L) (hg:H7 J Γ.ss=true) (s:Aa tb ⟨SV 0 φs,EV J L Γ.ss⟩ fn.body [] (QIn fn.res Γr)) (hb: ∀p,BU (Γr p) (Γk p) J d n) (t:(p:τ)→A8 tb (Γk p) N (k+1) (fR B) C' rest w ks Q):A8 tb Γ N k B C (⟨d,none,o⟩::rest) (none::w) ks Q:=
 DP hq hO hcn (a:=s.m) (Γ':=Γk) (fun E rv fp f H I p hp=>by
  obtain⟨v,H',h1,rv',fp',h2⟩:=tW hf hw hnp hn hc ha hL hg s hb I hp
  exact⟨v,some H',h1,rv',fp',h2⟩) t
structure WJ(tb:CD){τ:Type}(Γk:τ→Cx)(N k:Nat)(B:List Ob)(C:List Cb)(l:List AQ)(w:List (Option (Nat×Nat)))(ks:List Kf){ρ:Type}(Q:Lf ρ) where
 m:τ→Option ρ
 ok: ∀p E f H,Rel E (Γk p) f H→ ∀ms,gJ f B ms→ ∀es,CR f C es→ ∀r,m p=some r→ ∃q e f' H',FM tb (BW tb) N k ms es l w f H q∧HN tb ks (.normal,q.1,q.2)=some (e,f',H')∧Q E r e f' H'
def WJ.one{Γk:τ→Cx}{N k:Nat}{B:List Ob}{C:List Cb}{l:List AQ}{w:List (Option (Nat×Nat))}(t:(p:τ)→A8 tb (Γk p) N k B C l w ks Q):WJ tb Γk N k B C l w ks Q:=⟨fun p=>(t p).m,fun p=>(t p).ok⟩
def WJ.alt{σ:Type}{Γ1:τ→Cx}{Γ2:σ→Cx}{N k:Nat}{B:List Ob}{C:List Cb}{l:List AQ}{w:List (Option (Nat×Nat))}(k1:WJ tb Γ1 N k B C l w ks Q)(k2:WJ tb Γ2 N k B C l w ks Q):WJ tb (Sum.elim Γ1 Γ2) N k B C l w ks Q:=
 ⟨Sum.elim k1.m k2.m,fun p=>match p with
  | .inl p=>k1.ok p
  | .inr p=>k2.ok p⟩
def pN{g:Nat}{fn:Dx}{o:Hj}{d:Option Nat}{rest:List AQ}{w:List (Option (Nat×Nat))}{N k:Nat}{B:List Ob}{C C':List Cb}{srcs:List WM}{φs:List AJ}{n:Nat}{L:Ts}{Γr:τ→Cx}(hq:jR B C' d=true)(hcn:JY Γ k C C')(J:Nat)(Γk:τ→Cx)(hO: ∀p,WH tb (Γk p) B)(hf:tb.prim g=none∧tb.fns g=some fn)(hw:fn.warm=true)(hnp:fn.np=srcs.length)(hn:n=fn.res.length)
  (hc:RM tb Γ o g srcs) (ha:XC tb Γ srcs φs) (hL:Ni Γ J L) (hg:H7 J Γ.ss=true) (s:Aa tb ⟨SV 0 φs,EV J L Γ.ss⟩ fn.body [] (QIn fn.res Γr)) (hb: ∀p,BU (Γr p) (Γk p) J d n) (t:WJ tb Γk N (k+1) (fR B) C' rest w ks Q):A8 tb Γ N k B C (⟨d,none,o⟩::rest) (none::w) ks Q:=
 ⟨s.m.bind t.m,(A8.inl hq hcn J Γk hO hf hw hnp hn hc ha hL hg s hb fun p=>⟨t.m p,t.ok p⟩).ok⟩
inductive aO(tb:CD)(Γ:Cx):(As:List T)→List WM→Ce As→Prop where
 |nil:aO tb Γ [] [] ()
 |one {t:T} {s:WM} {x:t.α}:OpS tb Γ s (.val t x)→aO tb Γ [t] [s] x
 |cons {t u:T} {As:List T} {s:WM} {l:List WM} {x:t.α} {y:Ce (u::As)}:OpS tb Γ s (.val t x)→aO tb Γ (u::As) l y→aO tb Γ (t::u::As) (s::l) (x,y)
theorem aO.spec(R:Bm E Γ rv fp f H): ∀{As:List T} {l:List WM} {x:Ce As},aO tb Γ As l x→TF (Pf E Γ.ss fp H) H As (l.map (bE tb f rv)) x
 |_,_,_, .nil=>rfl
 |_,_,_, .one h=>⟨_,rfl,h E rv fp f H R⟩
 |_,_,_, .cons h k=>⟨_,_,rfl,h E rv fp f H R,k.spec R⟩
theorem lJ{g:Nat}{As Rs:List T}{F:Ce As→Option (Ce Rs)}{o:Hj}{l:List WM}{x:Ce As}(sp:Spec tb g As Rs F)(hc:RM tb Γ o g l)(hx:aO tb Γ As l x):Fi tb Γ o (F x) fun r=>rE Rs r:=by
 intro E rv fp f H R r hr
 obtain⟨v,u,h1,h2,h3⟩:=(sp (Pf E Γ.ss fp H) H _ x R.ltP R.wf (hx.spec R) r hr).call
 exact⟨v,u,by rw[hc E rv fp f H R];exact h1,h2,Vu h3⟩
theorem O3{g:Nat}{As:List T}{t:T}{F:Ce As→Option (Ce [t])}{o:Hj}{l:List WM}{x:Ce As}(sp:Spec tb g As [t] F)(hc:RM tb Γ o g l)(hx:aO tb Γ As l x):Fi tb Γ o (F x) fun r:t.α=> .val t r:=lJ sp hc hx
theorem J5{g:Nat}{As:List T}{t u:T}{Rs:List T}{F:Ce As→Option (Ce (t::u::Rs))}{o:Hj}{l:List WM}{x:Ce As}(sp:Spec tb g As (t::u::Rs) F)(hc:RM tb Γ o g l)(hx:aO tb Γ As l x):Fi tb Γ o (F x) fun r=> .tup (mQ (t::u::Rs) r):=lJ sp hc hx
end
end Go.Proofs.YtobejhpigbllpaaGreatDoor.Am
namespace Go.Proofs.YtobejhpigbllpaaGreatDoor.Am
section
variable{tb:CD}{Γ:Cx}{a b:AO}{E:Oc}{rv:Nat→AV}{fp:Fp}{f:Fr}{H:Av}{ks:List Kf}{ρ:Type}{Q:Lf ρ}
end
end Go.Proofs.YtobejhpigbllpaaGreatDoor.Am
namespace Go.Proofs.YtobejhpigbllpaaGreatDoor.Am
theorem Vi{tb:CD}{q:Bool}{g:Nat}{w:Bool}{R:List AQ}: ∀{l:List AQ} {f:Fr} {H:Av},get f g= .b w→g∉Fe l→AS tb (BW tb) (rg q (l.map (gd g w)++R)) f H=AS tb (BW tb) (rg q (l++R)) f H
 |[],_,_,_,_=>rfl
 |o::l,f,H,h,hn=>by
  have hd:o.d≠some g:=fun e=>hn (by simp[Fe,e])
  have hn':g∉Fe l:=fun e=>hn (by
   simp only[Fe,List.filterMap_cons]at e ⊢
   cases o.d<;>simp[e])
  have hwt:wanted f (gd g w o).g=wanted f o.g:=by
   cases ho:o.g with
   |none=>simp[gd,ho,wanted,h]
   |some p=>simp[gd,ho]
  have hoo:(gd g w o).o=o.o:=by cases ho:o.g<;>simp[gd,ho]
  have hod:(gd g w o).d=o.d:=by cases ho:o.g<;>simp[gd,ho]
  have ih: ∀v H',AS tb (BW tb) (rg q (l.map (gd g w)++R)) (put f o.d v) H'=AS tb (BW tb) (rg q (l++R)) (put f o.d v) H':=fun v H'=>Vi (by rw[wanted_put (w:=w) hd];exact h) hn'
  cases q with
  |true=>
   have ih': ∀v H',Hu tb (BW tb) H' (l.map (gd g w)++R) (put f o.d v)=Hu tb (BW tb) H' (l++R) (put f o.d v):=fun v H'=>by
    have:=ih v H'
    simp only[rg,if_true,AS]at this
    cases h1:Hu tb (BW tb) H' (l.map (gd g w)++R) (put f o.d v)<;>cases h2:Hu tb (BW tb) H' (l++R) (put f o.d v)<;>simp_all
   simp only[rg,if_true,AS,List.map_cons,List.cons_append,Hu,hwt,hoo,hod,ih']
  |false=>
   have ih': ∀v H',ops tb (BW tb) (l.map (gd g w)++R) (put f o.d v) H'=ops tb (BW tb) (l++R) (put f o.d v) H':=fun v H'=>by
    have:=ih v H'
    simp only[rg,Bool.false_eq_true,if_false,AS]at this
    cases h1:ops tb (BW tb) (l.map (gd g w)++R) (put f o.d v) H'<;>cases h2:ops tb (BW tb) (l++R) (put f o.d v) H'<;>simp_all [Prod.ext_iff]
   simp only[rg,Bool.false_eq_true,if_false,AS,List.map_cons,List.cons_append,ops,hwt,hoo,hod,ih']
section
variable{tb:CD}{Γ:Cx}{a b:AO}{ks:List Kf}{ρ:Type}{Q:Lf ρ}
def Aa.andI{q:Bool}{L l rest:List AQ}{g t d:Nat}{b:Bool}(Γk:Cx)(n:Nat)(og:B3 Γ.ts g=some (.val T.b b))(h:KH g true n L=some (l,⟨some d,none, .pick (.t g) (.t t) (.k (.b false))⟩::rest))(hc:X4 g l Γ.ts=true)(hs: ∀z,Sub (Γk.push d (.val T.b z)) (Γ.push d (.val T.b z)))
  (k:(z:Bool)→Aa tb (Γk.push d (.val T.b z)) (rg q rest) ks Q)
  (main:((z:Bool)→Aa tb (Γk.push d (.val T.b z)) (rg q rest) ks Q)→Aa tb (Γ.push g (.val T.b true)) (rg q (l++⟨some d,none, .pick (.t g) (.t t) (.k (.b false))⟩::rest)) ks Q):Aa tb Γ (rg q L) ks Q:=
 ⟨if b=true then(main k).m else(k false).m,fun E f H ⟨rv,fp,I⟩ r hr=>by
  have hL:=HV h
  simp only[X4,Bool.and_eq_true,Bool.not_eq_true']at hc
  obtain⟨hc1,hc2,hc3⟩:=hc
  have hg:=FK.1 (I.temps g _ og)
  have hng:=K7 hc2
  cases b with
  |true=>
   obtain⟨e,f',H',h4,h5⟩:=(main k).ok E f H ⟨rv,fp,I.le,I.base,I.wf,I.fplt,I.rvlt,I.scal,I.inj,I.slots,fun u φ e=>by
    simp only[Cx.push,B3]at e
    split at e
    ·rename_i hu;cases e;subst hu;exact FK.2 hg
    ·exact I.temps u φ e,I.gh⟩ r (by simpa using hr)
   exact⟨e,f',H',by rw[hL,Vi hg hng];exact h4,h5⟩
  |false=>
   obtain⟨f',h1,h2⟩:=Q7 (tb:=tb) (q:=q) (w:=true) (H:=H) hg hng hc1 (by simp)
   have hp:Bo tb (BW tb) (eval tb f') H (.pick (.t g) (.t t) (.k (.b false)))=some (.b false,none):=by
    simp only[Bo,eval,h2 g hng,hg];rfl
   have I':Bm E Γ rv fp f' H:=I.fr fun u φ e=>h2 u (Ja hc3 e)
   obtain⟨e,f2,H2,h4,h5⟩:=(k false).ok E _ H ⟨rv,fp,(XV I').sub (hs _)⟩ r (by simpa using hr)
   exact⟨e,f2,H2,by rw[hL,FB h1,EN hp rfl];exact h4,h5⟩⟩
theorem iX{n:Nat}{t:T}{zero:List AV}{ps:List (Nat×Nat×AO)}(z:Ar t.α n)(hz:zero=(A2 n t).zc)(h:kG tb Γ (A2 n t) ps (A2 n t).z z):Fi tb Γ (.bld zero ps) (some ()) fun _=> .val (A2 n t) z:=by
 rintro E rv fp f H R _ ⟨⟩
 exact D4 hz rfl h E rv fp f H R z rfl
theorem M3{sz:Nat}: ∀{l:List (List AV)} {i:Nat},(∀e∈l,e.length=sz)→i≤l.length→l.flatten.take (i*sz)=(l.take i).flatten∧l.flatten.drop (i*sz)=(l.drop i).flatten
 |l,0,_,_=>by simp
 |[],i+1,_,h=>by simp at h
 |d::l,i+1,hl,h=>by
  have h1:=hl d List.mem_cons_self
  obtain⟨a,b⟩:=M3 (l:=l) (i:=i) (fun e he=>hl e (List.mem_cons_of_mem _ he)) (by simpa using h)
  have hs:(i+1)*sz=d.length+i*sz:=by rw[Nat.succ_mul];omega
  constructor
  ·rw[List.flatten_cons,hs,List.take_append,List.take_of_length_le (by omega),Nat.add_sub_cancel_left,a];simp
  ·rw[List.flatten_cons,hs,←List.drop_drop,List.drop_left' rfl,b];simp
theorem jB{sz k m:Nat}{l:List (List AV)}(hl: ∀e∈l,e.length=sz)(h:k+m≤l.length):sub l.flatten (k*sz) (m*sz)=((l.drop k).take m).flatten:=by
 simp only[sub]
 rw[(M3 hl (i:=k) (by omega)).2,(M3 (fun e he=>hl e (List.mem_of_mem_drop he)) (i:=m) (by rw[List.length_drop];omega)).1]
theorem eC{sz:Nat}{l:List (List AV)}(hl: ∀e∈l,e.length=sz):l.flatten.length=l.length*sz:=by
 induction l with
 |nil=>simp
 |cons d l ih=>
  have:=ih fun e he=>hl e (List.mem_cons_of_mem _ he)
  have:=hl d List.mem_cons_self
  simp only[List.flatten_cons,List.length_append,List.length_cons,Nat.succ_mul];omega
theorem ZM{sz i:Nat}{l dss:List (List AV)}(hl: ∀e∈l,e.length=sz)(hd: ∀e∈dss,e.length=sz)(h:i+dss.length≤l.length):Bq l.flatten (i*sz) dss.flatten=(l.take i++dss++l.drop (i+dss.length)).flatten:=by
 simp only[Bq,List.flatten_append]
 rw[(M3 hl (i:=i) (by omega)).1,eC hd,←Nat.add_mul,(M3 hl (i:=i+dss.length) h).2]
def Ta(n:Nat)(t:T)(k m:Nat)(hkm:k+m≤n):AL (A2 n t) (A2 m t) (k*t.sz) where
 get:=fun x=>⟨(x.l.drop k).take m,by rw[List.length_take,List.length_drop,x.len];omega⟩
 put:=fun x y=>⟨x.l.take k++y.l++x.l.drop (k+m),by rw[List.length_append,List.length_append,List.length_take,List.length_drop,x.len,y.len];omega⟩
 le:=by
  show k*t.sz+m*t.sz≤n*t.sz
  rw[←Nat.add_mul];exact Nat.mul_le_mul_right _ hkm
 getR:=fun{P H cs x} ⟨css,e,h⟩=>by
  refine⟨(css.drop k).take m,?_,h.drop.take⟩
  have hlen:=h.length
  have hx:=x.len
  rw[e]
  exact jB h.lens (by omega)
 putR:=fun{P H cs x c y} ⟨css,e,h⟩ ⟨dss,e',h'⟩=>by
  refine⟨css.take k++dss++css.drop (k+m),?_,(h.take.app h').app h.drop⟩
  have hlen:=h.length
  have hx:=x.len
  have hlen':=h'.length
  have hy:=y.len
  rw[e,e']
  have:=ZM (dss:=dss) h.lens h'.lens (i:=k) (by omega)
  rw[this,show dss.length=m by omega]
theorem ZH{j off n sz:Nat}{ps:List (Nat×AJ)}{lo hi:Option AO}{l h:Option Int}(hj:AG Γ.ss j=some (.cells ps))(hle:Nat.ble (off+n*sz) (Te ps)=true)(ha:Cv tb Γ a (.cp j off))(hl:pO tb Γ lo l)(hh:pO tb Γ hi h):
  Fi tb Γ (.sla n sz a lo hi) (RO n l h) fun p=> .oc j (off+p.1*sz) sz (p.2-p.1):=by
 intro E rv fp f H I p hp
 obtain⟨lv,id,e,hv⟩:=ha E rv fp f H I
 obtain⟨cs,h0,h2,h3⟩:=F2 I hj e
 have hs:=PR.length h3
 have hle:=Nat.le_of_ble_eq_true hle
 refine⟨.ocel sz id (off+p.1*sz) (p.2-p.1),none,?_,rfl,lv,id,e,rfl⟩
 simp only[Bo,hv]
 rw[SQ hl hh I,hp]
 simp only[Option.bind_some,mG,h2]
 rw[if_pos (by omega)]
 rfl
theorem Nh{j off n sz k m o' c:Nat}{ps:List (Nat×AJ)}{lo hi:Option AO}{l h:Option Int}(hj:AG Γ.ss j=some (.cells ps))(hle:Nat.ble (off+n*sz) (Te ps)=true)(ha:Cv tb Γ a (.cp j off))(hl:pO tb Γ lo l)(hh:pO tb Γ hi h)
  (hb:RO n l h=some (k,m)) (ho:off+k*sz=o') (hc:m-k=c):Fi tb Γ (.sla n sz a lo hi) (some ()) fun _=> .oc j o' sz c:=by
 rintro E rv fp f H I _ ⟨⟩
 subst ho hc
 exact ZH hj hle ha hl hh E rv fp f H I (k,m) hb
theorem pH{n:Nat}{h:Option Int}{p:Nat×Nat}(e:RO n none h=some p):p.1=0∧p.2≤n:=by
 have h2:=(vK e).2
 unfold RO at e
 obtain⟨u,hu,e⟩:=Option.bind_eq_some_iff.1 e
 obtain⟨l,hl,e⟩:=Option.bind_eq_some_iff.1 e
 cases hl
 cases e
 exact⟨rfl,h2⟩
theorem iW{j off n sz:Nat}{ps:List (Nat×AJ)}{hi:Option AO}{h:Option Int}(hj:AG Γ.ss j=some (.cells ps))(hle:Nat.ble (off+n*sz) (Te ps)=true)(ha:Cv tb Γ a (.cp j off))(hh:pO tb Γ hi h):
  Fi tb Γ (.sla n sz a none hi) ((RO n none h).map fun p=>p.2) fun m=> .oc j off sz m:=by
 intro E rv fp f H I m hm
 obtain⟨p,hp,rfl⟩:=Option.map_eq_some_iff.1 hm
 have:=ZH hj hle ha .none hh E rv fp f H I p hp
 simp only[(pH hp).1,Nat.zero_mul,Nat.add_zero,Nat.sub_zero]at this
 exact this
theorem uA{j off len sz n:Nat}(ha:Cv tb Γ a (.oc j off sz len))(hn:Nat.ble n len=true):Fi tb Γ (.s2a n sz a) (some ()) fun _=> .cp j off:=by
 rintro E rv fp f H I _ ⟨⟩
 obtain⟨lv,id,e,hv⟩:=ha E rv fp f H I
 have hn:=Nat.le_of_ble_eq_true hn
 exact⟨.ptr id off,none,by simp only[Bo,hv,mH];rw[if_pos ⟨trivial,hn⟩];rfl,rfl,lv,id,e,rfl⟩
theorem h_lenC{j off len sz:Nat}(ha:Cv tb Γ a (.oc j off sz len)):Fi tb Γ (.len a) (some (len:Int)) fun n=> .val (T.int .i64) n:=by
 rintro E rv fp f H I _ ⟨⟩
 obtain⟨lv,id,e,hv⟩:=ha E rv fp f H I
 exact⟨.i .i64 len,none,by simp only[Bo,hv,Oy,Option.map_some],rfl,BK.2 rfl⟩
theorem h_iasC{j off len sz:Nat}{k:IntKind}{i:Int}{ps:List (Nat×AJ)}(hj:AG Γ.ss j=some (.cells ps))(hle:off+len*sz≤Te ps)(ha:Cv tb Γ a (.oc j off sz len))(hb:Cv tb Γ b (.val (T.int k) i)):
  Fi tb Γ (.ias sz a b) (Ft len i) fun m=> .cp j (off+m*sz):=by
 intro E rv fp f H I m hm
 obtain⟨h0,rfl,h1⟩:=Yl hm
 obtain⟨lv,id,e,hv⟩:=ha E rv fp f H I
 obtain⟨cs,g0,g2,g3⟩:=F2 I hj e
 have hs:=PR.length g3
 have hcl: ∀(n:Nat) (l:List AV),(BI sz n l).length=n:=by
  intro n
  induction n with
  |zero=>intro l;rfl
  |succ n ih=>intro l;simp[BI,ih]
 refine⟨.ptr id (off+i.toNat*sz),none,?_,rfl,lv,id,e,rfl⟩
 simp only[Bo,hv,BK.1 (hb E rv fp f H I),Hn,Option.bind_some,if_pos h0,Tp,Es,g2]
 rw[if_pos ⟨trivial,by omega⟩]
 simp only[Option.bind_some,hcl]
 rw[if_pos (by omega)]
 rfl
theorem HQ{j off len sz:Nat}{k:IntKind}{i:Int}{ps:List (Nat×AJ)}(N:Nat)(hj:AG Γ.ss j=some (.cells ps))(hN:N=Te ps)(ha:Cv tb Γ a (.oc j off sz len))(hb:Cv tb Γ b (.val (T.int k) i)):
  Fi tb Γ (.ias sz a b) (if off+len*sz≤N then Ft len i else none) fun m=> .cp j (off+m*sz):=by
 intro E rv fp f H I m hm
 split at hm
 ·rename_i hle
  exact h_iasC hj (hN▸hle) ha hb E rv fp f H I m hm
 ·cases hm
theorem Bm.learn{E:Oc}{rv:Nat→AV}{fp:Fp}{f:Fr}{H:Av}(I:Bm E Γ rv fp f H){d:Nat}{φ:AJ}(h:FR rv Γ.ss (Pf E Γ.ss fp H) H φ (get f d)):Bm E (Γ.push d φ) rv fp f H:=
 ⟨I.le,I.base,I.wf,I.fplt,I.rvlt,I.scal,I.inj,I.slots,fun t ψ e=>by
  simp only[Cx.push,B3]at e
  split at e
  ·rename_i hd;cases e;subst hd;exact h
  ·exact I.temps t ψ e,I.gh⟩
def uL{α:Type}(l:List α)(k m n:Nat):Option (GS α):=if k+m≤n then some (.mk ((l.drop k).take m))else none
theorem Bm.frzSl{E:Oc}{rv:Nat→AV}{fp:Fp}{f:Fr}{H:Av}(I:Bm E Γ rv fp f H){j N o k m n sz d:Nat}{t u:T}{x:t.α}{g:GS u.α}(F:AL t (A2 n u) o)(hsz:sz=u.sz)(hj:AG Γ.ss j=some (.cells [(N, .val t x)]))(hn:Nat.blt j Zt=true)
  (hd:B3 Γ.ts d=some (.oc j (o+k*sz) sz m)) (hg:uL (F.get x).l k m n=some g):Bm E ((Γ.turn j (aG t x)).push d (.val (T.sl u) g)) rv fp f H:=by
 have hlj:AX Γ.ss j:=Kj hj rfl
 have hs:=I.slots j _ hj
 obtain⟨_,id,e,hv⟩:=I.temps d _ hd
 obtain⟨id',cs,h3,h0,h4,c,e',h5,h6,h7,h8⟩:=hs
 rw[e]at h3
 cases h3
 have h8':e'=[]:=h8
 subst h8'
 simp only[List.append_nil]at h5
 subst h5
 simp only[uL]at hg
 split at hg
 ·rename_i hkm
  cases hg
  have hlen:=t.len h7
  have hle:=F.le
  have J:=I.frzCell hj hn
  have hlv: ∀k,AX (Γ.turn j (aG t x)).ss k↔k≠j∧AX Γ.ss k:=OW
  subst hsz
  have hk:=(h0 id).2 rfl
  have hPid:Pf E (Γ.turn j (aG t x)).ss fp H id:=Pf.gone I hlj hk (fun k lk=>(hlv k).1 lk) (I.new hlj hn id hk)
  have hr:=t.mono (G:=H) (fun i hi=>⟨Pf.same (ss':=(Γ.turn j (aG t x)).ss) (fun k l=>((hlv k).1 l).2) hi,rfl⟩) h7
  obtain⟨css,e1,e2⟩:=F.getR hr
  have hszA:(A2 n u).sz=n*u.sz:=rfl
  have hwhole:RI u (Pf E (Γ.turn j (aG t x)).ss fp H) H (.ocel u.sz id o n) (.mk (F.get x).l):=by
   refine⟨hPid,css,?_,e2⟩
   simp only[Es,h4,Option.bind_some]
   rw[if_pos ⟨trivial,by omega⟩]
   congr 1
   have key: ∀(k:Nat) (css:List (List AV)) (cs:List AV),css.length=k→(∀e∈css,e.length=u.sz)→cs.take (k*u.sz)=css.flatten→BI u.sz k cs=css:=by
    intro k
    induction k with
    |zero=>intro css cs h _ _;rw[List.eq_nil_of_length_eq_zero h];rfl
    |succ k ih=>
     intro css cs hk hall hc
     match css,hk with
     |y::css,hk=>
      have hy:=hall y (by simp)
      simp only[BI]
      simp only[List.flatten_cons]at hc
      have hA:cs.take u.sz=y:=by
       have:=congrArg (List.take u.sz) hc
       rw[List.take_take,Nat.min_eq_left (by rw[Nat.succ_mul];omega),List.take_left' hy]at this
       exact this
      have hB:(cs.drop u.sz).take (k*u.sz)=css.flatten:=by
       have:=congrArg (List.drop u.sz) hc
       rw[List.drop_left' hy,List.drop_take,Nat.succ_mul,Nat.add_sub_cancel]at this
       exact this
      rw[hA,ih css (cs.drop u.sz) (by simpa using hk) (fun e he=>hall e (by simp[he])) hB]
   exact key n css (cs.drop o) (by rw[e2.length];exact(F.get x).len) e2.lens (by rw[←e1];rfl)
  have hlenx:(F.get x).l.length=n:=(F.get x).len
  obtain⟨w,h9,h10⟩:=hwhole.resl (c:=k) (d:=k+m) (by omega) (by simp only[GS.l];omega)
  have hw:Am.resl H u.sz (.ocel u.sz id o n) k (k+m)=some (.ocel u.sz id (o+k*u.sz) m):=by simp[Am.resl]
  rw[hw]at h9
  cases h9
  refine J.learn ?_
  rw[hv]
  have:So (GS.mk (F.get x).l) k (k+m)= .mk (((F.get x).l.drop k).take m):=by simp[So,List.drop_take]
  rw[this]at h10
  exact Jc.2 h10
 ·cases hg
def Aa.frzSl{c:AC}{j N o k m n sz:Nat}(d:Nat){t u:T}{x:t.α}(F:AL t (A2 n u) o)(hsz:sz=u.sz)(hj:AG Γ.ss j=some (.cells [(N, .val t x)]))(hn:Nat.blt j Zt=true)
  (hd:B3 Γ.ts d=some (.oc j (o+k*sz) sz m)) (s:(g:GS u.α)→Aa tb ((Γ.turn j (aG t x)).push d (.val (T.sl u) g)) c ks Q):Aa tb Γ c ks Q:=
 ⟨(uL (F.get x).l k m n).bind fun g=>(s g).m,fun E f H ⟨rv,fp,I⟩ r hr=>by
  obtain⟨g,hg,hr⟩:=Option.bind_eq_some_iff.1 hr
  exact(s g).ok E f H ⟨rv,fp,I.frzSl F hsz hj hn hd hg⟩ r hr⟩
def zU{α:Type}{n:Nat}(x:Ar α n)(k m:Nat)(ys:List α):Option (Ar α n):=
 if h:k+m≤n then some ⟨x.l.take k++ys.take m++x.l.drop (k+min ys.length m),by
  rw[List.length_append,List.length_append,List.length_take,List.length_take,List.length_drop,x.len];omega⟩else none
theorem Bm.cpy{E:Oc}{rv:Nat→AV}{fp:Fp}{f:Fr}{H:Av}(I:Bm E Γ rv fp f H){s t:T}{x:s.α}{n j o o' k sz m N:Nat}{ps:List (Nat×AJ)}{ys:List t.α}{z:Ar t.α n}(F:AL s (A2 n t) o')(hk:sz=t.sz)
  (ha:Cv tb Γ a (.oc j (o+k*sz) sz m)) (hb:vZ tb Γ b t ys) (hj:AG Γ.ss j=some (.cells ps)) (hp:It ps o=some (N, .val s x,o')) (hz:zU (F.get x) k m ys=some z):
  ∃v H',Bo tb (BW tb) (eval tb f) H (.cpy sz a b)=some (v,some H')∧v= .i .i64 ((min ys.length m:Nat):Int)∧ ∃rv' fp',Bm E (Γ.setS j (.cells (TS ps o (.val s (F.put x z))))) rv' fp' f H':=by
 subst hk
 simp only[zU]at hz
 split at hz
 ·rename_i hkm
  cases hz
  obtain⟨l,id,e,hv⟩:=ha E rv fp f H I
  obtain⟨cs,h0,h2,h3⟩:=F2 I hj e
  obtain⟨b',c,e0,e1,e2,e3,e4,e5,e6⟩:=Fb h3 hp
  obtain⟨els,g1,g2⟩:=hb E rv fp f H I
  have hel:=g2.length
  have hlens:=(g2.take (n:=m)).lens
  have htl:(els.take m).length=min ys.length m:=by rw[List.length_take,hel,Nat.min_comm]
  have hfl:=eC hlens
  rw[htl]at hfl
  let G:=JF F (Ta n t k (min ys.length m) (by omega))
  have hle:=G.le
  have hszA:(A2 (min ys.length m) t).sz=min ys.length m*t.sz:=rfl
  have hl:=s.len e4
  have hy:(A2 (min ys.length m) t).R (Pf E Γ.ss fp H) H (els.take m).flatten ⟨ys.take m,by rw[List.length_take,Nat.min_comm]⟩:=⟨els.take m,rfl,g2.take⟩
  have hput:=G.putR e4 hy
  have hpr:=e6 (o'+k*t.sz) (els.take m).flatten (.val s (G.put x ⟨ys.take m,by rw[List.length_take,Nat.min_comm]⟩)) (by rw[hfl];omega) hput
  rw[show b'+(o'+k*t.sz)=o+k*t.sz by omega]at hpr
  have hmen:=PR.men I.ltP I.rvlt h3
  have hym:=(A2 (min ys.length m) t).men hy I.ltP
  have hlt':=(I.fplt j id l ((h0 id).2 rfl)).1
  have hx:G.put x ⟨ys.take m,by rw[List.length_take,Nat.min_comm]⟩=F.put x ⟨(F.get x).l.take k++ys.take m++(F.get x).l.drop (k+min ys.length m),by
    rw[List.length_append,List.length_append,List.length_take,List.length_take,List.length_drop,(F.get x).len];omega⟩:=rfl
  rw[hx]at hpr
  obtain⟨rv',fp',_,_,R'⟩:=I.set (j:=j) (S:= .cells (TS ps o (.val s (F.put x ⟨(F.get x).l.take k++ys.take m++(F.get x).l.drop (k+min ys.length m),by
    rw[List.length_append,List.length_append,List.length_take,List.length_take,List.length_drop,(F.get x).len];omega⟩)))) (v:=rv j) (o:= .cells (DJ H id) (Bq cs (o+k*t.sz) (els.take m).flatten)) (by rw[hj];rfl) l h0 (by simp only[DI];exact MX hmen hym) rfl (I.rvlt j l) (.inl rfl) (I.scal j l) fun rv' fp' e1 e2 hP hs=>
   ⟨id,_,by rw[e1,e],e2,by simp[BO,hlt'],PR.mono hP (by simp) (fun p _=>hs p.2 (.inl rfl)) hpr⟩
  refine⟨_,H.set id (B5.cells (DJ H id) (Bq cs (o+k*t.sz) (els.take m).flatten)),?_,rfl,rv',fp',R'⟩
  have hmn:min els.length m=min ys.length m:=by rw[hel]
  have hbnd:o+k*t.sz+m*t.sz≤cs.length:=by
   have hF:=F.le
   have hszF:(A2 n t).sz=n*t.sz:=rfl
   have:(k+m)*t.sz≤n*t.sz:=Nat.mul_le_mul_right _ hkm
   rw[Nat.add_mul]at this
   omega
  simp only[Bo,g1,Option.bind_some,hv,aE,h2]
  rw[if_pos ⟨trivial,hbnd⟩,hmn]
  have hte:els.take (min ys.length m)=els.take m:=by
   rw[←hmn]
   rcases Nat.le_total els.length m with h|h
   ·rw[Nat.min_eq_left h,List.take_of_length_le (Nat.le_refl _),List.take_of_length_le h]
   ·rw[Nat.min_eq_right h]
  rw[hte,Bq,hfl]
 ·cases hz
theorem M_cpyD{s t:T}{x:s.α}{n j o o' k sz m N d:Nat}{ps:List (Nat×AJ)}{ys:List t.α}(F:AL s (A2 n t) o')(hk:sz=t.sz)
  (ha:Cv tb Γ a (.oc j (o+k*sz) sz m)) (hb:vZ tb Γ b t ys) (hj:AG Γ.ss j=some (.cells ps)) (hp:It ps o=some (N, .val s x,o')):
  WG tb Γ (some d) (.cpy sz a b) (zU (F.get x) k m ys) fun z=>(Γ.setS j (.cells (TS ps o (.val s (F.put x z))))).push d (.val (T.int .i64) ((min ys.length m:Nat):Int)):=fun E rv fp f H I z hz=>by
 obtain⟨v,H',h1,rfl,rv',fp',h2⟩:=I.cpy F hk ha hb hj hp hz
 exact⟨_,some H',h1,rv',fp',h2.push (BK.2 rfl)⟩
def hQ:AJ→Bool
 | .own _=>true
 | .rp _ _=>true
 | .cp _ _=>true
 | .ep _ _ _=>true
 | .con _=>true
 | .fnv _ _ _=>true
 | .val t _=> !t.agg
 |_=>false
theorem nU{φ:AJ}(h:hQ φ=true){E:Oc}{rv:Nat→AV}{fp:Fp}{f:Fr}{H:Av}(R:Bm E Γ rv fp f H)(hs:szF Γ.ss φ=some 1){v:AV}(r:FR rv Γ.ss (Pf E Γ.ss fp H) H φ v):
  cellsOf v=[v]∧Bz v≤H.length∧ ∀rv ss P H,FC rv ss P H φ [v]↔FR rv ss P H φ v:=by
 obtain⟨g1,g2⟩:=Q0 R hs r
 have ha:vU φ=false:=by cases φ<;>first|rfl|(simp only[hQ,Bool.false_eq_true]at h;done)|(simp only[hQ,Bool.not_eq_true']at h;exact h)
 rw[ha]at g2
 refine⟨?_,FR.men R.ltP R.rvlt (by rintro rfl;cases h) r,fun rv ss P H=> ?_⟩
 ·match hc:cellsOf v,g1 with
  |[w],_=>
   rw[hc]at g2
   simp only[GI,Option.some.injEq]at g2
   rw[g2]
 ·cases φ<;>first
   |(simp only[hQ,Bool.false_eq_true]at h;done)
   |exact⟨fun⟨w,e,r⟩=>by cases e;exact r,fun r=>⟨v,rfl,r⟩⟩
   |exact⟨fun r=> .inr ⟨by simpa [hQ]using h,r⟩,fun r=>r.elim (fun⟨e,_⟩=>by simp[hQ,e]at h) (fun e=>e.2)⟩
theorem Cj{d t0:Nat}{z:List AV}(j:Nat)(ps:List (Nat×AJ))(hz: ∀rv ss P H,PR rv ss P H ps z)(hm:Bc z=0)(hj:AG Γ.ss j=none):WG tb Γ (some d) (.alloc t0 z) (some ()) fun _=>⟨(d, .cp j 0)::Γ.ts,(j, .cells ps)::Γ.ss⟩:=by
 intro E rv fp f H R _ hz0
 obtain⟨rv',fp',h1,h2,h3⟩:=R.more (j:=j) (S:= .cells ps) (v:= .ptr H.length 0) (o:= .cells (some t0) z) (GO hj) (by simp only[DI];omega) rfl (by simp[Bz]) rfl fun rv' fp' e1 e2 hP hs=>
  ⟨_,z,e1,e2,by simp[BO],hz _ _ _ _⟩
 exact⟨_,_,rfl,rv',fp',h3.push (φ:= .cp j 0) ⟨h2,_,h1,rfl⟩⟩
theorem h_cvcI{I:IT}{x:I.t.α}(ha:Cv tb Γ a (.val I.t x)):Fi tb Γ (.cvc a) (some (Utf8.encode (I.toI x)).data.toList) fun z=> .val A5 z:=by
 rintro E rv fp f H R z ⟨⟩
 exact⟨_,none,by simp only[Bo,I.V.1 (ha E rv fp f H R)],rfl,DV.2 rfl⟩
end
section
variable{tb:CD}{Γ:Cx}{a b:AO}
def Yc(ss:Ss):List Nat→Bool
 |[]=>true
 |j::r=>(match AG ss j with
  |some (.keep φ)=>hQ φ&&(match szF ss φ with|some 1=>true|_=>false)
  |_=>false)&&Yc ss r
theorem Qc{E:Oc}{rv:Nat→AV}{fp:Fp}{f:Fr}{H:Av}(R:Bm E Γ rv fp f H): ∀{js:List Nat},Yc Γ.ss js=true→(js.flatMap fun j=>cellsOf (rv j))=js.map rv∧Mv Γ.ss js∧ ∀j∈js,Bz (rv j)≤H.length
 |[],_=>⟨rfl,fun _ hj=>absurd hj (by simp),fun _ hj=>absurd hj (by simp)⟩
 |j::r,h=>by
  simp only[Yc,Bool.and_eq_true]at h
  obtain⟨h1,h2⟩:=h
  obtain⟨g1,g2,g3⟩:=Qc R h2
  split at h1
  ·rename_i φ e
   simp only[Bool.and_eq_true]at h1
   have hs:szF Γ.ss φ=some 1:=by
    have:=h1.2
    split at this
    ·assumption
    ·cases this
   obtain⟨k1,k2,_⟩:=nU h1.1 R hs (R.slots j _ e).1
   refine⟨by simp only[List.flatMap_cons,List.map_cons,k1,g1];rfl,fun k hk=> ?_,fun k hk=> ?_⟩
   ·rcases List.mem_cons.1 hk with rfl|hk
    ·rw[e];rfl
    ·exact g2 k hk
   ·rcases List.mem_cons.1 hk with rfl|hk
    ·exact k2
    ·exact g3 k hk
  ·cases h1
def kvs(js:List Nat):List (Nat×AJ):=js.map fun k=>(1, .kv k)
theorem tN{rv:Nat→AV}{ss:Ss}{P:Nat→Prop}{H:Av}: ∀{js:List Nat},Mv ss js→PR rv ss P H (kvs js) (js.map rv)
 |[],_=>rfl
 |j::r,h=>⟨[rv j],r.map rv,rfl,rfl,⟨rv j,rfl,fun k hk=>by rw[List.mem_singleton.1 hk];exact h j (by simp),rfl⟩,tN fun k hk=>h k (by simp[hk])⟩
theorem vY{rv:Nat→AV}{ss:Ss}{P:Nat→Prop}{H:Av}: ∀{js:List Nat} {cs:List AV},PR rv ss P H (kvs js) cs→cs=js.map rv
 |[],cs,h=>h
 |j::r,cs,⟨c,d,e,_,⟨v,hc,_,hv⟩,g⟩=>by rw[e,hc,vY g,hv];rfl
theorem Df{js:List Nat}{j n:Nat}{ps:List (Nat×AJ)}(ha:Cv tb Γ a (.cp j 0))(hb:Cv tb Γ b (.aggk js))(ho:Yc Γ.ss js=true)(hj:AG Γ.ss j=some (.cells ps))(hn:n=js.length)(hs:n=Te ps):
  WG tb Γ none (.st n a b) (some ()) fun _=>Γ.setS j (.cells (kvs js)):=by
 rintro E rv fp f H R z ⟨⟩
 obtain⟨l,id,e,hv⟩:=ha E rv fp f H R
 obtain⟨cs,h0,h2,h3⟩:=F2 R hj e
 obtain⟨g1,g2,g3⟩:=Qc R ho
 have hbv:=(hb E rv fp f H R).2
 rw[g1]at hbv
 have hlen:=PR.length h3
 have hlt:=(R.fplt j id l ((h0 id).2 rfl)).1
 have hm:Bc (js.map rv)≤H.length:=by
  have key: ∀l:List Nat,(∀j∈l,Bz (rv j)≤H.length)→Bc (l.map rv)≤H.length:=by
   intro l
   induction l with
   |nil=>intro _;simp[Bc]
   |cons x l ih=>intro h;simp only[List.map_cons,Bc];have:=h x (by simp);have:=ih fun j hj=>h j (by simp[hj]);omega
  exact key js g3
 obtain⟨rv',fp',_,_,R'⟩:=R.set (j:=j) (S:= .cells (kvs js)) (v:=rv j) (o:= .cells (DJ H id) (js.map rv)) (by rw[hj];rfl) l h0 (by simp only[DI];exact hm) rfl (R.rvlt j l) (.inl rfl) (R.scal j l) fun rv' fp' e1 e2 hP hs=>
  ⟨id,_,by rw[e1,e],e2,by simp[BO,hlt],PR.mono hP (by simp) (fun p _=>hs p.2 (.inl rfl)) (tN (rv:=rv) g2)⟩
 have hsp:Bq cs 0 (js.map rv)=js.map rv:=by
  simp only[Bq,List.take_zero,List.nil_append,Nat.zero_add]
  rw[List.drop_eq_nil_of_le (by rw[List.length_map];omega),List.append_nil]
 refine⟨.junk,some (H.set id (B5.cells (DJ H id) (js.map rv))),?_,rv',fp',R'⟩
 simp only[Bo,hv,store,h2,Option.bind_some,hbv,cellsOf]
 rw[if_pos ⟨by rw[List.length_map,hn],by omega⟩,hsp]
 rfl
theorem h_ldKs{js:List Nat}{j n:Nat}(ha:Cv tb Γ a (.cp j 0))(ho:Yc Γ.ss js=true)(hj:AG Γ.ss j=some (.cells (kvs js)))(hn:n=js.length):Fi tb Γ (.ld true n a) (some ()) fun _=> .aggk js:=by
 rintro E rv fp f H R z ⟨⟩
 obtain⟨l,id,e,hv⟩:=ha E rv fp f H R
 obtain⟨cs,h0,h2,h3⟩:=F2 R hj e
 obtain⟨g1,g2,g3⟩:=Qc R ho
 have hcs:=vY h3
 subst hcs
 have hsub:sub (js.map rv) 0 n=js.map rv:=by
  simp only[sub,List.drop_zero];exact List.take_of_length_le (by rw[List.length_map];omega)
 refine⟨.agg (js.map rv),none,?_,rfl,g2,by rw[g1]⟩
 simp only[Bo,hv,Am.load,place,h2,Option.map_some,Option.bind_some]
 rw[if_pos (by rw[List.length_map];omega),hsub]
 rfl
theorem DA{js:List Nat}{j n m:Nat}(h:B3 Γ.ts n=some (.cp j 0))(ho:Yc Γ.ss js=true)(hj:AG Γ.ss j=some (.cells (kvs js)))(hm:m=js.length):ResG Γ (.cell true m n) (.aggk js):=by
 intro E rv fp f H R r vs hr
 obtain⟨v,u,h1,_,h3⟩:=h_ldKs (tb:=⟨fun _=>none,fun _=>none,fun _=>none,[]⟩) (Af h) ho hj hm E rv fp f H R () rfl
 simp only[Bo,eval,val]at h1
 obtain⟨w,hw,e⟩:=Option.map_eq_some_iff.1 h1
 cases e
 exact⟨v,by simp only[results,hw,Option.bind_some,hr,Option.map_some],h3⟩
end
def G7{t:T}{l:List CK}(p:BZ t l)(x y:t.α):Bool:= @decide (x=y) (p.d x y)
theorem JC{t:T}{l:List CK}{p:BZ t l}{x y:t.α}(h:x=y):G7 p x y=true:= @decide_eq_true _ (p.d x y) h
theorem UC{t:T}{l:List CK}{p:BZ t l}{x y:t.α}(h: ¬x=y):G7 p x y=false:= @decide_eq_false _ (p.d x y) h
end Go.Proofs.YtobejhpigbllpaaGreatDoor.Am
namespace Go.Proofs.YtobejhpigbllpaaGreatDoor.Am
section
variable{tb:CD}{cl:Nat→List AV→Av→JG}{N:Nat}
theorem nS{d:Option Nat}{g g':Option (Nat×Bool)}{o:Hj}{l l':List AQ}{p:Fr×Av}: ∀{k:Nat} {ms:List U1} {es:List pR} {w:List (Option (Nat×Nat))} {f:Fr} {h:Av},wanted f g'=wanted f g→
  (∀k ms es w v h,FM tb cl N k ms es l w (put f d v) h p→FM tb cl N k ms es l' w (put f d v) h p)→FM tb cl N k ms es (⟨d,g,o⟩::l) w f h p→FM tb cl N k ms es (⟨d,g',o⟩::l') w f h p
 |k,ms,es,[],f,h,hw,ih,e=>by simp[FM]at e
 |k,ms,es,none::w,f,h,hw,ih,e=>by
  simp only[FM]at e ⊢
  rw[hw]
  rcases e with ⟨h0,q,es',h1,h2,h3,h4,e⟩|⟨h0,h1,e⟩
  ·exact .inl ⟨h0,q,es',h1,h2,h3,h4,ih _ _ _ _ _ _ e⟩
  ·exact .inr ⟨h0,h1,ih _ _ _ _ _ _ e⟩
 |k,ms,es,some (lo,hi)::w,f,h,hw,ih,e=>by
  simp only[FM]at e ⊢
  rw[hw]
  rcases e with ⟨h0,q,h1,h2,h3,⟨h4,e⟩|⟨h4,h5,e⟩⟩|⟨h0,h1,e⟩
  ·exact .inl ⟨h0,q,h1,h2,h3, .inl ⟨h4,ih _ _ _ _ _ _ e⟩⟩
  ·exact .inl ⟨h0,q,h1,h2,h3, .inr ⟨h4,h5,ih _ _ _ _ _ _ e⟩⟩
  ·exact .inr ⟨h0,h1,ih _ _ _ _ _ _ e⟩
theorem U7{p:Fr×Av}: ∀{l:List AQ} {k:Nat} {ms:List U1} {es es2:List pR} {w:List (Option (Nat×Nat))} {f:Fr} {h:Av},(∀e∈es,e∈es2)→FM tb cl N k ms es l w f h p→FM tb cl N k ms es2 l w f h p
 |[],k,ms,es,es2,w,f,h,hs,e=>by cases w<;>exact e
 |⟨d,g,o⟩::l,k,ms,es,es2,[],f,h,hs,e=>by simp[FM]at e
 |⟨d,g,o⟩::l,k,ms,es,es2,none::w,f,h,hs,e=>by
  simp only[FM]at e ⊢
  rcases e with ⟨h0,q,es',h1,h2,h3,h4,e⟩|⟨h0,h1,e⟩
  ·exact .inl ⟨h0,q,es',h1,h2,h3,fun x hx=>⟨(h4 x hx).1.imp (hs x) id,(h4 x hx).2⟩,e⟩
  ·exact .inr ⟨h0,h1,e⟩
 |⟨d,g,o⟩::l,k,ms,es,es2,some (lo,hi)::w,f,h,hs,e=>by
  simp only[FM]at e ⊢
  rcases e with ⟨h0,q,h1,h2,h3,⟨h4,e⟩|⟨h4,⟨x,hx,h5⟩,e⟩⟩|⟨h0,h1,e⟩
  ·exact .inl ⟨h0,q,h1,h2,h3, .inl ⟨h4,U7 hs e⟩⟩
  ·exact .inl ⟨h0,q,h1,h2,h3, .inr ⟨h4,⟨x,hs x hx,h5⟩,U7 hs e⟩⟩
  ·exact .inr ⟨h0,h1,U7 hs e⟩
theorem lO{g:Nat}{b:Bool}{R:List AQ}{p:Fr×Av}: ∀{l:List AQ} {k:Nat} {ms:List U1} {es:List pR} {w:List (Option (Nat×Nat))} {f:Fr} {h:Av},get f g= .b b→g∉Fe l→
  FM tb cl N k ms es (l++R) w f h p→FM tb cl N k ms es (l.map (gd g b)++R) w f h p
 |[],_,_,_,_,_,_,_,_,e=>e
 |o::l,k,ms,es,w,f,h,hg,hn,e=>by
  have hd:o.d≠some g:=fun e=>hn (by simp[Fe,e])
  have hn':g∉Fe l:=fun e=>hn (by
   simp only[Fe,List.filterMap_cons]at e ⊢
   cases o.d<;>simp[e])
  have hwt:wanted f (gd g b o).g=wanted f o.g:=by
   cases ho:o.g with
   |none=>simp[gd,ho,wanted,hg]
   |some p=>simp[gd,ho]
  have hoo:gd g b o=⟨o.d,(gd g b o).g,o.o⟩:=by
   obtain⟨d,og,oo⟩:=o
   cases og<;>rfl
  rw[List.map_cons,List.cons_append,hoo]
  rw[List.cons_append]at e
  exact nS hwt (fun k ms es w v h e=>lO (by rw[wanted_put (w:=b) hd];exact hg) hn' e) e
def Oh:Nat→List (Option (Nat×Nat))→Option (Nat×List (Option (Nat×Nat)))
 |0,w=>some (0,w)
 |n+1,none::w=>(Oh n w).map fun p=>(p.1+1,p.2)
 |n+1,some _::w=>Oh n w
 |_+1,[]=>none
theorem RZ{g:Nat}{b:Bool}{R:List AQ}: ∀{l:List AQ} {seen:List Nat} {k m:Nat} {w w2:List (Option (Nat×Nat))} {f:Fr} {H:Av},get f g= .b (!b)→g∉Fe l→XM seen l=true→(∀t∈seen,get f t= .tup [])→
  Oh l.length w=some (m,w2)→ ∃f',(∀u,u∉Fe l→get f' u=get f u)∧ ∀p,FM tb cl N (k+m) [] [] R w2 f' H p→FM tb cl N k [] [] (l.map (gd g b)++R) w f H p
 |[],seen,k,m,w,w2,f,H,_,_,_,_,e=>by
  simp only[List.length_nil,Oh,Option.some.injEq,Prod.mk.injEq]at e
  obtain⟨rfl,rfl⟩:=e
  exact⟨f,fun _ _=>rfl,fun p h=>h⟩
 |o::l,seen,k,m,w,w2,f,H,h,hn,hs,hseen,e=>by
  have hd:o.d≠some g:=fun e=>hn (by simp[Fe,e])
  have hn':g∉Fe l:=fun e=>hn (by
   simp only[Fe,List.filterMap_cons]at e ⊢
   cases o.d<;>simp[e])
  simp only[XM,Bool.and_eq_true]at hs
  have hwt:wanted f (gd g b o).g=some false:=by
   cases ho:o.g with
   |none=>simp[gd,ho,wanted,h]
   |some p=>
    obtain⟨t,b⟩:=p
    simp only[gd,ho,wanted]
    have:=hs.1
    rw[ho]at this
    obtain⟨x,hx,hb⟩:=List.any_eq_true.1 this
    have hb:=Nat.eq_of_beq_eq_true hb
    subst hb
    rw[hseen _ hx]
  have hoo:gd g b o=⟨o.d,(gd g b o).g,o.o⟩:=by
   obtain⟨d,og,oo⟩:=o
   cases og<;>rfl
  have h1:get (put f o.d (.tup [])) g= .b (!b):=by rw[wanted_put (w:=b) hd];exact h
  have h2: ∀t∈(match o.d with|some d=>d::seen|none=>seen),get (put f o.d (.tup [])) t= .tup []:=fun t ht=>by
   cases hdd:o.d with
   |none=>rw[hdd]at ht;exact hseen t ht
   |some d=>
    rw[hdd]at ht
    simp only[put,get]
    by_cases e:d=t
    ·rw[if_pos e]
    ·rw[if_neg e]
     rcases List.mem_cons.1 ht with e'|ht
     ·exact absurd e'.symm e
     ·exact hseen t ht
  have hu: ∀f':Fr,(∀u,u∉Fe l→get f' u=get (put f o.d (.tup [])) u)→ ∀u,u∉Fe (o::l)→get f' u=get f u:=fun f' h3 u hu=>by
   have hu':u∉Fe l:=fun e=>hu (by
    simp only[Fe,List.filterMap_cons]at e ⊢
    cases o.d<;>simp[e])
   rw[h3 u hu']
   exact wanted_put (w:=b) fun e=>hu (by simp[Fe,e])
  cases w with
  |nil=>simp[Oh]at e
  |cons x w=>
   cases x with
   |none=>
    simp only[List.length_cons,Oh]at e
    obtain⟨q,hq,e⟩:=Option.map_eq_some_iff.1 e
    obtain⟨f',h3,h4⟩:=RZ (k:=k+1) (m:=q.1) (w2:=q.2) (H:=H) (R:=R) h1 hn' hs.2 h2 hq
    simp only[Prod.mk.injEq]at e
    obtain⟨rfl,rfl⟩:=e
    refine⟨f',hu f' h3,fun p hp=> ?_⟩
    rw[List.map_cons,List.cons_append,hoo]
    exact .inr ⟨hwt,rfl,h4 p (by rw[Nat.add_assoc,Nat.add_comm 1];exact hp)⟩
   |some y=>
    simp only[List.length_cons,Oh]at e
    obtain⟨f',h3,h4⟩:=RZ (k:=k) (H:=H) (R:=R) h1 hn' hs.2 h2 e
    refine⟨f',hu f' h3,fun p hp=> ?_⟩
    rw[List.map_cons,List.cons_append,hoo]
    exact .inr ⟨hwt,rfl,h4 p hp⟩
end
section
variable{tb:CD}{Γ:Cx}{a b:AO}{ks:List Kf}{ρ:Type}{Q:Lf ρ}
theorem Bm.sure{E:Oc}{rv:Nat→AV}{fp:Fp}{f:Fr}{H:Av}(I:Bm E Γ rv fp f H){g:Nat}{b:Bool}(hg:get f g= .b b):Bm E (Γ.push g (.val T.b b)) rv fp f H:=
 ⟨I.le,I.base,I.wf,I.fplt,I.rvlt,I.scal,I.inj,I.slots,fun u φ e=>by
  simp only[Cx.push,B3]at e
  split at e
  ·rename_i hu;cases e;subst hu;exact FK.2 hg
  ·exact I.temps u φ e,I.gh⟩
def MC{L l rest:List AQ}{g t d:Nat}{b:Bool}{w w2:List (Option (Nat×Nat))}{y:Nat×Nat}{N k m:Nat}(Γk:Cx)(n:Nat)(og:B3 Γ.ts g=some (.val T.b b))(h:KH g true n L=some (l,⟨some d,none, .pick (.t g) (.t t) (.k (.b false))⟩::rest))(hc:X4 g l Γ.ts=true)(hs: ∀z,Sub (Γk.push d (.val T.b z)) (Γ.push d (.val T.b z)))
  (hw:Oh l.length w=some (m,some y::w2)) (hq:X5 N (k+m) [] [] y (some d) (.pick (.t g) (.t t) (.k (.b false)))=true)
  (kk:(z:Bool)→A8 tb (Γk.push d (.val T.b z)) N (k+m) [] [] rest w2 ks Q)
  (main:((z:Bool)→A8 tb (Γk.push d (.val T.b z)) N (k+m) [] [] rest w2 ks Q)→A8 tb (Γ.push g (.val T.b true)) N k [] [] (l++⟨some d,none, .pick (.t g) (.t t) (.k (.b false))⟩::rest) w ks Q):A8 tb Γ N k [] [] L w ks Q:=
 ⟨if b=true then(main kk).m else(kk false).m,fun E f H ⟨rv,fp,I⟩ ms hms es hes r hr=>by
  cases hms;cases hes
  have hL:=HV h
  simp only[X4,Bool.and_eq_true,Bool.not_eq_true']at hc
  obtain⟨hc1,hc2,hc3⟩:=hc
  have hg:=FK.1 (I.temps g _ og)
  have hng:=K7 hc2
  cases b with
  |true=>
   obtain⟨p,e,f',H',h4,h5⟩:=(main kk).ok E f H ⟨rv,fp,I.sure hg⟩ [] .nil [] .nil r (by simpa using hr)
   exact⟨p,e,f',H',by rw[hL];exact lO hg hng h4,h5⟩
  |false=>
   obtain⟨f',h1,h2⟩:=RZ (tb:=tb) (cl:=BW tb) (N:=N) (b:=true) (H:=H) (k:=k) (R:=⟨some d,none, .pick (.t g) (.t t) (.k (.b false))⟩::rest) hg hng hc1 (by simp) hw
   have hp:Bo tb (BW tb) (eval tb f') H (.pick (.t g) (.t t) (.k (.b false)))=some (.b false,none):=by
    simp only[Bo,eval,h1 g hng,hg];rfl
   have I':Bm E Γ rv fp f' H:=I.fr fun u φ e=>h1 u (Ja hc3 e)
   obtain⟨p,e,f2,H2,h4,h5⟩:=(kk false).ok E _ H ⟨rv,fp,(XV I').sub (hs _)⟩ [] .nil [] .nil r (by simpa using hr)
   exact⟨p,e,f2,H2,by rw[hL];exact h2 p (qE hq .nil hp rfl h4),h5⟩⟩
def KY{Γ0:Cx}{rest:List AQ}{g d:Nat}{x b:Bool}{y z:AO}{w:List (Option (Nat×Nat))}{q:Nat×Nat}{N k:Nat}(og:B3 Γ.ts g=some (.val T.b b))(ht:Cv tb Γ (bif b then y else z) (.val T.b x))(hs:Sub (Γ0.push d (.val T.b x)) (Γ.push d (.val T.b x)))
  (hq:X5 N k [] [] q (some d) (.pick (.t g) y z)=true) (kk:(z:Bool)→A8 tb (Γ0.push d (.val T.b z)) N k [] [] rest w ks Q) {C:List Cb}:A8 tb Γ N k [] C (⟨some d,none, .pick (.t g) y z⟩::rest) (some q::w) ks Q:=
 ⟨(kk x).m,fun E f H ⟨rv,fp,I⟩ ms hms es hes r hr=>by
  cases hms
  have hg:=FK.1 (I.temps g _ og)
  have hp:Bo tb (BW tb) (eval tb f) H (.pick (.t g) y z)=some (.b x,none):=by
   have hv:=FK.1 (ht E rv fp f H I)
   simp only[Bo,eval,hg]
   cases b<;>exact congrArg (fun v=>some (v,none)) hv
  obtain⟨p,e,f2,H2,h4,h5⟩:=(kk x).ok E _ H ⟨rv,fp,(XV I).sub hs⟩ [] .nil [] .nil r hr
  exact⟨p,e,f2,H2,U7 (es:=[]) (fun _ hx=>absurd hx (by simp)) (qE hq .nil hp rfl h4),h5⟩⟩
def T.err:T:=RH Bool (fun x=>if x then .ifc 0 .junk else .nili) false (fun x=>by cases x<;>rfl) (fun x=>by cases x<;>rfl)
theorem Aa5{P:Nat→Prop}{H:Av}{v:AV}{x:Bool}:T.err.V P H v x↔v=if x then .ifc 0 .junk else .nili:=OE
theorem uC{t:Nat}:Fi tb Γ (.mkif t a) (some ()) fun _=> .val T.err true:=by
 rintro E rv fp f H R _ ⟨⟩
 exact⟨_,none,rfl,rfl,Aa5.2 rfl⟩
theorem o_g{n:Nat}{t:T}{cs:List AV}{x:t.α}(h:tb.gl n=some cs)(hm:Bc cs=0)(hr: ∀P H,t.R P H cs x):Cv tb Γ (.g n) (.rp t x):=fun E rv fp f H R=>by
 have hl:=t.len (hr (Pf E Γ.ss fp H) H)
 have he:eval tb f (.g n)= .ip cs 0:=by simp only[eval,h]
 show XD t _ _ _ _
 rw[he]
 refine⟨trivial,cs,0,rfl,by omega,?_,fun m _=>by simp only[Bz,hm];omega⟩
 have:sub cs 0 t.sz=cs:=by simp[sub,←hl]
 rw[this];exact hr _ _
theorem qB{α:Type}(c:α→AV)(hm: ∀x,Bz (c x)=0): ∀l:List α,Bc (l.map c)=0
 |[]=>rfl
 |x::l=>by simp only[List.map_cons,Bc,hm x,qB c hm l];rfl
theorem AaC{α:Type}{c:α→AV}{z:α}{hs hm}{n:Nat}{P:Nat→Prop}{H:Av}(x:Ar α n):(A2 n (RH α c z hs hm)).R P H (x.l.map c) x:=by
 have key: ∀l:List α,l.map c=(l.map fun y=>[c y]).flatten∧C1 (RH α c z hs hm) P H (l.map fun y=>[c y]) l:=fun l=>by
  induction l with
  |nil=>exact⟨rfl,trivial⟩
  |cons y l ih=>exact⟨by simp[ih.1],rfl,ih.2⟩
 exact⟨_,(key x.l).1,(key x.l).2⟩
end
def aS(K V:T)(P:Nat→Prop)(H:Av):List (AV×AV)→List (K.α×V.α)→Prop
 |[],[]=>True
 |(a,b)::r,(x,y)::q=>K.V P H a x∧V.V P H b y∧aS K V P H r q
 |_,_=>False
section
variable{K V:T}{P Q:Nat→Prop}{H G:Av}
theorem aS.mono(m: ∀i,P i→Q i∧G[i]? =H[i]?): ∀{es:List (AV×AV)} {l:List (K.α×V.α)},aS K V P H es l→aS K V Q G es l
 |[],[],_=>trivial
 |(_,_)::_,(_,_)::_,⟨h1,h2,h3⟩=>⟨h1.mono m,h2.mono m,h3.mono m⟩
theorem aS.men{m:Nat}(hp: ∀i,P i→i<m): ∀{es:List (AV×AV)} {l:List (K.α×V.α)},aS K V P H es l→Bc (es.map (·.1))≤m∧Bc (es.map (·.2))≤m
 |[],[],_=>by simp[Bc]
 |(_,_)::_,(_,_)::_,⟨h1,h2,h3⟩=>by
  have:=h1.men hp;have:=h2.men hp;have:=h3.men hp
  simp only[List.map_cons,Bc];omega
theorem aS.app: ∀{es fs:List (AV×AV)} {l m:List (K.α×V.α)},aS K V P H es l→aS K V P H fs m→aS K V P H (es++fs) (l++m)
 |[],_,[],_,_,h=>h
 |(_,_)::_,_,(_,_)::_,_,⟨h1,h2,h3⟩,h=>⟨h1,h2,h3.app h⟩
theorem aS.length: ∀{es:List (AV×AV)} {l:List (K.α×V.α)},aS K V P H es l→es.length=l.length
 |[],[],_=>rfl
 |(_,_)::_,(_,_)::_,⟨_,_,h3⟩=>by simp[h3.length]
end
def QY{κ ν:Type}(e:κ→κ→Bool):List (κ×ν)→κ→Option ν
 |[],_=>none
 |(x,v)::r,k=>bif e k x then some v else QY e r k
def QX{κ ν:Type}(e:κ→κ→Bool):List (κ×ν)→κ→ν→List (κ×ν)
 |[],k,v=>[(k,v)]
 |(x,y)::r,k,v=>bif e k x then(k,v)::r else(x,y)::QX e r k v
def nW{κ ν:Type}(e:κ→κ→Bool):List (κ×ν)→κ→List (κ×ν)
 |[],_=>[]
 |(x,y)::r,k=>bif e k x then r else(x,y)::nW e r k
def OG(K V:T):Dom where
 α:=List (K.α×V.α)
 R:=fun F P H v x=> ∃id es,v= .mp id∧(∀i,F i↔i=id)∧H[id]? =some (.map es)∧aS K V P H es x
 lt:=fun⟨id,es,_,hF,h,_⟩ i hi=>by rw[(hF i).1 hi];exact(List.getElem?_eq_some_iff.1 h).1
 men:=fun⟨id,es,e,hF,_,_⟩ _ hm=>by rw[e];simp only[Bz];exact hm id ((hF id).2 rfl)
 mono:=fun m g ⟨id,es,e,hF,h,r⟩=>⟨id,es,e,hF,by rw[g id ((hF id).2 rfl)];exact h,r.mono m⟩
structure aQ(K:T)(ek:EK) where
 l:List CK
 p:BZ K l
 h:(K.agg=true∧ek= .agg l)∨(K.agg=false∧ ∃c,l=[c]∧ek= .one c)
def aQ.e{K:T}{ek:EK}(q:aQ K ek):K.α→K.α→Bool:=G7 q.p
theorem lP: ∀{l:List CK} {c d:List AV} {b:Bool},KD l c d=some b→c.length=l.length
 |[],[],[],_,_=>rfl
 |[],[],_::_,_,h=>by simp[KD]at h
 |[],_::_,_,_,h=>by simp[KD]at h
 |_::_,[],_,_,h=>by simp[KD]at h
 |_::_,_::_,[],_,h=>by simp[KD]at h
 |k::l,x::c,y::d,b,h=>by
  simp only[KD]at h
  obtain⟨a,_,h⟩:=Option.bind_eq_some_iff.1 h
  obtain⟨b',h,_⟩:=Option.map_eq_some_iff.1 h
  simp[lP h]
section
variable{K V:T}{P Q:Nat→Prop}{H G:Av}{ek:EK}
theorem aQ.eq(q:aQ K ek){v w:AV}{x y:K.α}(h:K.V P H v x)(g:K.V Q G w y):Wk ek v w=some (q.e x y):=by
 rcases q.h with ⟨ha,e⟩|⟨ha,c,hl,e⟩
 ·rcases h with ⟨_,cs,rfl,h⟩|⟨hb,_⟩
  ·rcases g with ⟨_,ds,rfl,g⟩|⟨hb,_⟩
   ·exact(congrArg (fun e=>Wk e _ _) e).trans (q.p.h h g)
   ·rw[ha]at hb;cases hb
  ·rw[ha]at hb;cases hb
 ·rcases h with ⟨hb,_⟩|⟨_,h⟩
  ·rw[ha]at hb;cases hb
  ·rcases g with ⟨hb,_⟩|⟨_,g⟩
   ·rw[ha]at hb;cases hb
   ·have:=q.p.h h g
    refine(congrArg (fun e=>Wk e _ _) e).trans ?_
    simp only[hl,KD]at this
    simp only[Wk]
    obtain⟨b,h1,h2⟩:=Option.bind_eq_some_iff.1 this
    simp only[Option.map_some,Bool.and_true,Option.some.injEq]at h2
    rw[h1,h2];rfl
theorem aQ.ok(q:aQ K ek){v:AV}{x:K.α}(h:K.V P H v x):Lo ek v=true:=by
 rcases q.h with ⟨ha,e⟩|⟨ha,c,hl,e⟩
 ·rcases h with ⟨_,cs,rfl,h⟩|⟨hb,_⟩
  ·refine(congrArg (fun e=>Lo e _) e).trans ?_
   simp only[Lo,lP (q.p.h h h),Nat.beq_refl]
  ·rw[ha]at hb;cases hb
 ·exact(congrArg (fun e=>Lo e _) e).trans rfl
theorem SD(q:aQ K ek){k:AV}{x:K.α}(hk:K.V P H k x): ∀{es:List (AV×AV)} {m:List (K.α×V.α)} (i:Nat),aS K V P H es m→
  (∃j b y,Am.find ek k es i=some (some (i+j,b))∧QY q.e m x=some y∧V.V P H b y∧(∀b' y',V.V P H b' y'→aS K V P H (es.set j (k,b')) (QX q.e m x y'))∧aS K V P H (es.eraseIdx j) (nW q.e m x))∨
  (Am.find ek k es i=some none∧QY q.e m x=none∧(∀y',QX q.e m x y'=m++[(x,y')])∧nW q.e m x=m)
 |[],[],i,_=> .inr ⟨rfl,rfl,fun _=>rfl,rfl⟩
 |(a,b)::r,(x',y)::m,i,⟨h1,h2,h3⟩=>by
  have he:=q.eq hk h1
  cases hq:q.e x x' with
  |true=>
   refine .inl ⟨0,b,y,?_,?_,h2,fun b' y' h=> ?_,?_⟩
   ·simp only[Am.find,he,hq,Option.bind_some,if_true,Nat.add_zero]
   ·simp only[QY,hq,cond_true]
   ·simp only[List.set_cons_zero,QX,hq,cond_true];exact⟨hk,h,h3⟩
   ·simp only[List.eraseIdx_cons_zero,nW,hq,cond_true];exact h3
  |false=>
   rcases SD q hk (i+1) h3 with ⟨j,b',y',g1,g2,g3,g4,g5⟩|⟨g1,g2,g3,g4⟩
   ·refine .inl ⟨j+1,b',y',?_,?_,g3,fun b2 y2 h=> ?_,?_⟩
    ·simp only[Am.find,he,hq,Option.bind_some,Bool.false_eq_true,if_false,g1];congr 3;omega
    ·simp only[QY,hq,cond_false,g2]
    ·simp only[List.set_cons_succ,QX,hq,cond_false];exact⟨h1,h2,g4 b2 y2 h⟩
    ·simp only[List.eraseIdx_cons_succ,nW,hq,cond_false];exact⟨h1,h2,g5⟩
   ·refine .inr ⟨?_,?_,fun y2=> ?_,?_⟩
    ·simp only[Am.find,he,hq,Option.bind_some,Bool.false_eq_true,if_false,g1]
    ·simp only[QY,hq,cond_false,g2]
    ·simp only[QX,hq,cond_false,g3,List.cons_append]
    ·simp only[nW,hq,cond_false,g4]
end
section
variable{tb:CD}{Γ:Cx}{a b c:AO}{K V:T}{ek:EK}
def vW(V:T)(z:AV):Prop:=(V.agg=true∧z= .agg V.zc)∨(V.agg=false∧V.zc=[z])
theorem vW.v{V:T}{z:AV}(h:vW V z){P:Nat→Prop}{H:Av}:V.V P H z V.z:=by
 rcases h with ⟨h,rfl⟩|⟨h,e⟩
 ·exact .inl ⟨h,_,rfl,V.hz P H⟩
 ·exact .inr ⟨h,by rw[←e];exact V.hz P H⟩
theorem M_mkm{d:Nat}(j:Nat)(hj:AG Γ.ss j=none):WG tb Γ (some d) .mkm (some ()) fun _=>⟨(d, .own j)::Γ.ts,(j, .dom (OG K V) [])::Γ.ss⟩:=by
 rintro E rv fp f H R _ ⟨⟩
 obtain⟨rv',fp',h1,h2,h3⟩:=R.more (j:=j) (S:= .dom (OG K V) []) (v:= .mp H.length) (o:= .map []) (GO hj) (by simp[DI,Bc]) rfl (by simp[Bz]) rfl fun rv' fp' e1 e2 hP hs=>
  ⟨_,[],e1,e2,by simp,trivial⟩
 exact⟨.mp H.length,some (H++[B5.map []]),rfl,rv',fp',h3.push (d:=d) (φ:= .own j) ⟨h2,h1.symm⟩⟩
theorem iH{E:Oc}{rv:Nat→AV}{fp:Fp}{f:Fr}{H:Av}(R:Bm E Γ rv fp f H){j:Nat}{m:List (K.α×V.α)}(hj:AG Γ.ss j=some (.dom (OG K V) m))(ha:Cv tb Γ a (.own j)):
  ∃id es,eval tb f a= .mp id∧rv j= .mp id∧(∀i,fp j i↔i=id)∧H[id]? =some (.map es)∧aS K V (Pf E Γ.ss fp H) H es m:=by
 obtain⟨_,hv⟩:=ha E rv fp f H R
 obtain⟨id,es,e,hF,hH,h⟩:=R.slots j _ hj
 exact⟨id,es,hv.trans e,e,hF,hH,h⟩
theorem h_lkp{j:Nat}{m:List (K.α×V.α)}{x:K.α}{z:AV}(q:aQ K ek)(hz:vW V z)(ha:Cv tb Γ a (.own j))(hj:AG Γ.ss j=some (.dom (OG K V) m))(hb:Cv tb Γ b (.val K x)):
  Fi tb Γ (.lkp ek z false a b) (some ()) fun _=> .val V ((QY q.e m x).getD V.z):=by
 rintro E rv fp f H R _ ⟨⟩
 obtain⟨id,es,e1,_,_,e2,e3⟩:=iH R hj ha
 have hk:=hb E rv fp f H R
 have he:Kp H (.mp id)=some es:=by simp only[Kp,Ln,e2]
 rcases SD q hk 0 e3 with ⟨j',b',y,g1,g2,g3,_,_⟩|⟨g1,g2,_,_⟩
 ·exact⟨b',none,by simp only[Bo,q.ok hk,if_true,e1,he,Option.bind_some,g1,Option.map_some,Bool.false_eq_true,if_false],rfl,by rw[g2];exact g3⟩
 ·exact⟨z,none,by simp only[Bo,q.ok hk,if_true,e1,he,Option.bind_some,g1,Option.map_some,Bool.false_eq_true,if_false],rfl,by rw[g2];exact hz.v⟩
theorem h_lenm{j:Nat}{m:List (K.α×V.α)}(ha:Cv tb Γ a (.own j))(hj:AG Γ.ss j=some (.dom (OG K V) m)):Fi tb Γ (.lenm a) (some (m.length:Int)) fun n=> .val (T.int .i64) n:=by
 rintro E rv fp f H R _ ⟨⟩
 obtain⟨id,es,e1,_,_,e2,e3⟩:=iH R hj ha
 exact⟨.i .i64 es.length,none,by simp only[Bo,e1,Kp,Ln,e2,Option.map_some],rfl,BK.2 (by rw[e3.length])⟩
theorem kW{E:Oc}{rv:Nat→AV}{fp:Fp}{f:Fr}{H:Av}(R:Bm E Γ rv fp f H){j id:Nat}{m m':List (K.α×V.α)}{es':List (AV×AV)}(hj:AG Γ.ss j=some (.dom (OG K V) m))(e0:rv j= .mp id)(hF: ∀i,fp j i↔i=id)
  (h:aS K V (Pf E Γ.ss fp H) H es' m'): ∃rv' fp',Bm E ⟨Γ.ts,(j, .dom (OG K V) m')::Γ.ss⟩ rv' fp' f (H.set id (.map es')):=by
 have hl:AX Γ.ss j:=Kj hj rfl
 have hm:=h.men R.ltP
 obtain⟨rv',fp',h1,h2,h3⟩:=R.set (j:=j) (S:= .dom (OG K V) m') (v:=rv j) (o:= .map es') (by rw[hj];rfl) hl hF (by simp only[DI];omega) rfl (R.rvlt j hl) (.inl rfl) (R.scal j hl)
  fun rv' fp' e1 e2 hP _=>⟨id,es',by rw[e1,e0],e2,by rw[List.getElem?_set_self (R.fplt j id hl ((hF id).2 rfl)).1],h.mono hP⟩
 exact⟨rv',fp',h3⟩
theorem wA{j:Nat}{m:List (K.α×V.α)}{x:K.α}{y:V.α}(q:aQ K ek)(ha:Cv tb Γ a (.own j))(hj:AG Γ.ss j=some (.dom (OG K V) m))(hb:Cv tb Γ b (.val K x))(hc:Cv tb Γ c (.val V y)):
  WG tb Γ none (.mup ek a b c) (some (QX q.e m x y)) fun m'=>⟨Γ.ts,(j, .dom (OG K V) m')::Γ.ss⟩:=by
 rintro E rv fp f H R _ ⟨⟩
 obtain⟨id,es,e1,e0,hF,e2,e3⟩:=iH R hj ha
 have hk:=hb E rv fp f H R
 have hv:=hc E rv fp f H R
 have he:Ln H id=some es:=by simp only[Ln,e2]
 rcases SD q hk 0 e3 with ⟨j',b',y',g1,g2,g3,g4,_⟩|⟨g1,g2,g3,_⟩
 ·obtain⟨rv',fp',h⟩:=kW R hj e0 hF (g4 _ y hv)
  exact⟨.junk,some (H.set id (.map (es.set j' (eval tb f b,eval tb f c)))),by simp only[Bo,q.ok hk,if_true,e1,he,Option.bind_some,g1,Option.map_some,Nat.zero_add],rv',fp',h⟩
 ·obtain⟨rv',fp',h⟩:=kW R hj e0 hF (e3.app (fs:=[(eval tb f b,eval tb f c)]) (m:=[(x,y)]) ⟨hk,hv,trivial⟩)
  exact⟨.junk,some (H.set id (.map (es++[(eval tb f b,eval tb f c)]))),by simp only[Bo,q.ok hk,if_true,e1,he,Option.bind_some,g1,Option.map_some],rv',fp',by rw[g3];exact h⟩
end
end Go.Proofs.YtobejhpigbllpaaGreatDoor.Am
namespace Go.Proofs.YtobejhpigbllpaaGreatDoor.Am
section
variable{tb:CD}{Γ:Cx}{ks:List Kf}{ρ:Type}{Q:Lf ρ}
def QJ(tb:CD){τ:Type}(Γj:τ→Cx)(ks:List Kf)(Q:Lf ρ):Lf (τ⊕ρ):=fun E r e f H=>
 match r with
 | .inl p=>e= .normal∧Rel E (Γj p) f H
 | .inr r=>e≠ .normal∧ ∃e' f' H',HN tb ks (e,f,H)=some (e',f',H')∧Q E r e' f' H'
def Ih{c:AC}{τ:Type}(Γj:τ→Cx)(k:(p:τ)→Aa tb (Γj p) (rg false []) ks Q)(main:Aa tb Γ c [] (QJ tb Γj ks Q)):Aa tb Γ c ks Q:=
 ⟨main.m.bind (Sum.elim (fun p=>(k p).m) some),fun E f H R r hr=>by
  obtain⟨b,hb,hr⟩:=Option.bind_eq_some_iff.1 hr
  obtain⟨e,f1,H1,h1,h2⟩:=main.ok E f H R b hb
  have h1':AS tb (BW tb) c f H=some (e,f1,H1):=by
   obtain⟨p,hp,h⟩:=Option.bind_eq_some_iff.1 h1
   rw[hp,←h];rfl
  rw[h1']
  cases b with
  |inr r'=>
   simp only[Sum.elim_inr,Option.some.injEq]at hr
   subst hr
   exact h2.2
  |inl p=>
   obtain⟨rfl,R'⟩:=h2
   simp only[Sum.elim_inl]at hr
   obtain⟨e2,f2,H2,h4,h5⟩:=(k p).ok E f1 H1 R' r hr
   exact⟨e2,f2,H2,by simpa [Dd]using h4,h5⟩⟩
def Ho{q:Bool}{τ:Type}{Γj:τ→Cx}(p:τ)(h:Sub (Γj p) Γ):Aa tb Γ (rg q []) [] (QJ tb Γj ks Q):=
 ⟨some (.inl p),fun E f H ⟨rv,fp,I⟩ r hr=>by
  cases hr
  exact⟨.normal,f,H,by simp[Dd,HN],rfl,rv,fp,I.sub h⟩⟩
def Ag{q:Bool}{d:Nat}{o:Hj}{l:List AQ}{β:Type}{a:β}{φ:β→AJ}(h:Fi tb Γ o (some a) φ)(k:(b:β)→Aa tb (Γ.push d (φ b)) (rg q l) ks Q):Aa tb Γ (rg q (⟨some d,none,o⟩::l)) ks Q:=
 ⟨(k a).m,(Aa.op h k).ok⟩
def Bf{q:Bool}{d t:Nat}{o:Hj}{l:List AQ}{β:Type}{a:β}{φ:β→AJ}(h:Fi tb Γ o (some a) φ)(k:(b:β)→Bl tb (Γ.push d (φ b)) q l t):Bl tb Γ q (⟨some d,none,o⟩::l) t:=
 ⟨(k a).m,(Bl.op h k).ok⟩
def Al{d:Option Nat}{o:Hj}{l:List AQ}{β:Type}{a:β}{Γ':β→Cx}(h:WG tb Γ d o (some a) Γ')(k:(b:β)→Aa tb (Γ' b) (rg false l) ks Q):Aa tb Γ (rg false (⟨d,none,o⟩::l)) ks Q:=
 ⟨(k a).m,(Cm h k).ok⟩
variable{w:List (Option (Nat×Nat))}{N k:Nat}{B:List Ob}{C C':List Cb}{o:Hj}{l:List AQ}{y:Nat×Nat}
def BB{d:Nat}{β:Type}{a:β}{φ:β→AJ}(hq:X5 N k B C y (some d) o=true)(h:Fi tb Γ o (some a) φ)(s:(b:β)→A8 tb (Γ.push d (φ b)) N k B C l w ks Q):A8 tb Γ N k B C (⟨some d,none,o⟩::l) (some y::w) ks Q:=
 ⟨(s a).m,(A8.op hq h s).ok⟩
end
end Go.Proofs.YtobejhpigbllpaaGreatDoor.Am
namespace Go.Proofs.YtobejhpigbllpaaGreatDoor.Am
def XZ(tB te:Nat):List AV→Av→Option (AV×Option Av)
 |[.ptr id off, .i .i64 n],h=>match h[id]? with
  |some (.cells (some t) [a, .nils])=>if off=0∧t=tB∧0≤n∧n≤BR then some (.tup [],some (h.set id (.cells (some t) [a, .orow h.length 0 0 0])++[.row (some te) false 1 []]))else none
  |_=>none
 |_,_=>none
def gH(P:Program)(g te:Nat):Prop:= ∀(b n:Nat) (w:World),w.cell? ⟨b,1,none⟩=some (.slice none 0 0)→b<w.heap.size→w.frozen? ⟨b,1,none⟩=false→n≤281474976710656→
 ∃cs:Array Value,n≤cs.size∧Calls P g #[.pointer (some ⟨b,0,none⟩), .int .i64 n] w fun e w'=>e= .returned (.tuple #[])∧w'=((w.setCell ⟨b,1,none⟩ (.slice (some ⟨w.heap.size,0,none⟩) 0 cs.size)).alloc (.cells cs te)).drew.drew.drew
def oX(P:Program)(g:Nat):Bool:=match P.funcs[g]? with
 |some fn=>fn.body.isSome&& !(fn.name== "runtime.NumGoroutine")
 |none=>false
section
variable{P:Program}{tb:CD}
theorem O9{g:Nat}(h:oX P g=true)(vs:Array Value)(w:World):(callFunc g vs).run P w= .ok (.enter g vs) w:=by
 unfold oX at h
 split at h
 ·rename_i fn hf
  simp only[Bool.and_eq_true,Bool.not_eq_true']at h
  obtain⟨h1,h2⟩:=h
  obtain⟨c,hc⟩:=Option.isSome_iff_exists.1 h1
  have h2': ¬fn.name= "runtime.NumGoroutine" :=by simpa using h2
  simp[callFunc,hf,hc,h2']
 ·cases h
theorem nL{tB te g:Nat}(hen:oX P g=true)(hg:gH P g te):E4 P tb fun g' args h=>if g'=g then XZ tB te args h else none:=by
 intro g' C args vs r I hr h
 dsimp only at h
 split at h
 ·rename_i hgg
  subst hgg
  unfold XZ at h
  split at h
  ·rename_i hp id off n
   split at h
   ·rename_i t x hid
    split at h
    ·rename_i hc
     obtain⟨rfl,rfl,h0,hm⟩:=hc
     cases h
     obtain⟨v,vs',e1,r1,v2,vs2,e2,r2,e3⟩:=hr
     have e3':vs2=[]:=e3
     have r2':v2= .int .i64 n:=r2
     subst e3';subst e2;subst e1;subst r2'
     obtain⟨_,rfl⟩:=r1
     obtain⟨us,arr,e,fr,⟨h1,hb⟩,h2,h3,h4,h5,h6⟩:=I.obj id _ hid
     obtain⟨ux,us1,eu1,rx,uy,us2,eu2,ry,eu3⟩:=h4
     have eu3':us2=[]:=eu3
     have ry':uy= .slice none 0 0:=ry
     subst eu3';subst eu2;subst eu1;subst ry'
     have hlt:(C.φ id).blk<C.w.heap.size:=I.lt id (AM hid)
     have hidl:=AM hid
     have c1:C.w.cell? ⟨(C.φ id).blk,1,none⟩=some (.slice none 0 0):=by
      have:=h5 1 (.slice none 0 0) rfl
      simpa using this
     have hnn:((n.toNat:Nat):Int)=n:=Int.toNat_of_nonneg h0
     have hmm:n.toNat≤281474976710656:=by unfold BR at hm;omega
     obtain⟨cs,hcs,hcall⟩:=hg (C.φ id).blk n.toNat C.w c1 hlt (h6 1 (by simp)) hmm
     rw[hnn]at hcall
     refine .inr ⟨g',_,O9 hen _ _,hcall.mono ?_⟩
     rintro ee w' ⟨rfl,hw'⟩
     have hszA:C.w.heap.size<(C.w.alloc (.cells cs te)).heap.size:=by rw[Ge];omega
     obtain⟨XA,hIA,hφA⟩:=more I (p:=⟨C.w.heap.size,0,cs.size⟩) (o:=B5.row (some te) false 1 []) (w:=C.w.alloc (.cells cs te)) ⟨rfl,rfl,rfl⟩ hszA rfl (fun b hb=>alloc_old _ _ hb)
     have hfA: ∀o,(C.w.alloc (.cells cs te)).frozen? ⟨C.w.heap.size,o,none⟩=false:=fun o=>by simp only[World.frozen?,Hi];simp
     have IA:=hIA ⟨[],cs,te,(0,0),⟨Hi _ _,Nat.le_refl _,fun k hk=>by cases hk;rfl⟩,rfl,by omega,by simp,rfl,by simp,fun j v hj=>by simp at hj,fun _ o _=>hfA o,fun _ o _ _=>hfA o⟩
     have hφid:(C.more ⟨C.w.heap.size,0,cs.size⟩ (B5.row (some te) false 1 []) (C.w.alloc (.cells cs te))).φ id=C.φ id:=if_neg (by omega)
     have hgA:(C.more ⟨C.w.heap.size,0,cs.size⟩ (B5.row (some te) false 1 []) (C.w.alloc (.cells cs te))).H[id]? =some (.cells (some t) [x, .nils]):=(List.getElem?_append_left hidl).trans hid
     have hws:w'.heap.size=C.w.heap.size+1:=by rw[hw'];simp
     have hwn:w'.heap[C.w.heap.size]? =some (.cells cs te):=by
      rw[hw']
      have:(C.w.setCell ⟨(C.φ id).blk,1,none⟩ (.slice (some ⟨C.w.heap.size,0,none⟩) 0 cs.size)).heap.size=C.w.heap.size:=by simp
      have hq:=Hi (C.w.setCell ⟨(C.φ id).blk,1,none⟩ (.slice (some ⟨C.w.heap.size,0,none⟩) 0 cs.size)) (.cells cs te)
      rw[this]at hq
      exact hq
     have hwo: ∀b,b<C.w.heap.size→w'.heap[b]? =(C.w.setCell ⟨(C.φ id).blk,1,none⟩ (.slice (some ⟨C.w.heap.size,0,none⟩) 0 cs.size)).heap[b]? :=fun b hb=>by
      rw[hw']
      exact alloc_old _ _ (by simpa using hb)
     have hwid:w'.heap[(C.φ id).blk]? =some (.cells (arr.setIfInBounds 1 (.slice (some ⟨C.w.heap.size,0,none⟩) 0 cs.size)) e fr):=by
      rw[hwo _ hlt];exact Rj h1
     let D0:=C.more ⟨C.w.heap.size,0,cs.size⟩ (B5.row (some te) false 1 []) (C.w.alloc (.cells cs te))
     obtain⟨X,hI⟩:=pQ (C:=D0) (D:=⟨D0.φ,D0.H.set id (.cells (some t) [x, .orow C.H.length 0 0 0]),w'⟩) IA (o':= .cells (some t) [x, .orow C.H.length 0 0 0]) (by rw[hw'];exact⟨rfl,rfl,rfl⟩) hgA rfl (fun _ _=>rfl)
      (by show(C.w.alloc (.cells cs te)).heap.size≤w'.heap.size;rw[Ge,hws];exact Nat.le_refl _)
      (fun b hb hne=>by
       have hb':b<C.w.heap.size+1:=by have:b<(C.w.alloc (.cells cs te)).heap.size:=hb;rw[Ge]at this;exact this
       show w'.heap[b]? =(C.w.alloc (.cells cs te)).heap[b]?
       by_cases hbe:b=C.w.heap.size
       ·subst hbe;rw[hwn,Hi]
       ·have hbl:b<C.w.heap.size:=by omega
        have hne':b≠(C.φ id).blk:=fun e=>hne (by rw[e];exact congrArg Place.blk hφid.symm)
        rw[hwo b hbl,alloc_old _ _ hbl,heap_setCell_other hne'])
      (.inl rfl) (fun _=>⟨rfl,rfl⟩) (fun _ _ _ _ e=>by cases e)
     have hrow:rowAt (D0.H.set id (.cells (some t) [x, .orow C.H.length 0 0 0])) C.H.length=some (false,1,[]):=by
      have:(D0.H.set id (B5.cells (some t) [x, .orow C.H.length 0 0 0]))[C.H.length]? =some (B5.row (some te) false 1 []):=by
       rw[List.getElem?_set_ne (by omega)]
       show(C.H++[_])[C.H.length]? =_
       simp
      simp only[rowAt,this]
     have hI2:=hI (by
      show Obj _ (D0.φ id) _
      rw[hφid]
      refine⟨[ux, .slice (some ⟨C.w.heap.size,0,none⟩) 0 cs.size],_,e,fr,⟨hwid,hb⟩,by simpa using h2,by simp only[List.all_cons,List.all_nil,Bool.and_true,Bool.and_eq_true]at h3 ⊢;exact⟨h3.1,rfl⟩,⟨ux,_,rfl,Fj.ext (XA.trans X) rx,_,_,rfl,?_,rfl⟩,?_,?_⟩
      ·refine⟨⟨_,_,rfl⟩,false,1,[],hrow,Nat.le_refl _,fun _=>⟨Nat.le_refl _,0,cs.size,?_,Nat.zero_le _,fun h=>absurd h (by omega),?_,?_⟩⟩
       ·show _=Value.slice (some ⟨(D0.φ C.H.length).blk,0,none⟩) 0 cs.size
        rw[show D0.φ C.H.length=_ from hφA]
       ·show 0+cs.size*1≤(D0.φ C.H.length).size
        rw[show D0.φ C.H.length=_ from hφA];simp
       ·show(D0.φ C.H.length).base≤0
        rw[show D0.φ C.H.length=_ from hφA];exact Nat.le_refl _
      ·intro j v hj
       simp only[World.cell?,hwid,Nat.zero_add]
       match j,hj with
       |0,hj=>
        have:=h5 0 ux rfl
        simp only[World.cell?,h1]at this
        simp only[List.getElem?_cons_zero,Option.some.injEq]at hj
        subst hj
        simpa using this
       |1,hj=>
        simp only[List.getElem?_cons_succ,List.getElem?_cons_zero,Option.some.injEq]at hj
        subst hj
        have h2':arr.size=2:=by simpa using h2
        simp[h2']
       |j+2,hj=>simp at hj
      ·intro o ho
       have:=h6 o (by simpa using ho)
       simp only[World.frozen?,h1]at this
       simp only[World.frozen?,hwid]
       exact this)
     refine⟨_,_,rfl,XA.trans X,hI2,rfl,?_,⟨[],rfl,rfl⟩⟩
     show(C.H++[B5.row (some te) false 1 []]).set id _=(C.H.set id _++[_])
     rw[List.set_append_left _ _ hidl]
    ·cases h
   ·cases h
  ·cases h
 ·cases h
end
end Go.Proofs.YtobejhpigbllpaaGreatDoor.Am
namespace Go.Proofs.YtobejhpigbllpaaGreatDoor.Am
def Qn(tS ncc ngr:Nat):Dx:=⟨false,2,25,[],
 (.seq (rg false [⟨some 4,none, .mv (.t 0)⟩,⟨some 5,none, .call ncc [(.t 4)]⟩])
 (.seq (.seq (rg false [⟨some 6,none, .mv (.t 1)⟩,⟨some 7,none, .bin .lss (.t 6) (.k (.i .i64 0))⟩])
 (.cond (.t 7)
  (rg false [⟨some 8,none, .mkif tS (.k (.s [115,116,114,105,110,103,115,46,66,117,105,108,100,101,114,46,71,114,111,119,58,32,110,101,103,97,116,105,118,101,32,99,111,117,110,116]))⟩,⟨none,none, .die⟩])
  .skip))
 (.seq (rg true [⟨some 9,none, .mv (.t 0)⟩,⟨some 10,none, .nilc (.t 9)⟩,⟨some 11,none, .fa 1 (.t 10)⟩,⟨some 12,none, .ld false 1 (.t 11)⟩,⟨some 13,none, .capn (.t 12)⟩,⟨some 14,none, .mv (.t 0)⟩,⟨some 15,none, .nilc (.t 14)⟩,⟨some 16,none, .fa 1 (.t 15)⟩,⟨some 17,none, .ld false 1 (.t 16)⟩,⟨some 18,none, .len (.t 17)⟩,⟨some 19,none, .bin .sub (.t 13) (.t 18)⟩,⟨some 20,none, .mv (.t 1)⟩,⟨some 21,none, .bin .lss (.t 19) (.t 20)⟩])
 (.cond (.t 21)
  (rg false [⟨some 22,none, .mv (.t 0)⟩,⟨some 23,none, .mv (.t 1)⟩,⟨some 24,none, .call ngr [(.t 22),(.t 23)]⟩])
  .skip))))⟩
section
variable{tb:CD}{tB te tS ncc nne ngw ngr:Nat}{h:Av}{id:Nat}{a b:AV}
theorem mU{cl:Nat→List AV→Av→JG}{d:Option Nat}{o:Hj}{l:List AQ}{f:Fr}{v:AV}{r:Option Fr}(e:Bo tb cl (eval tb f) h o=some (v,none))(k:Hu tb cl h l (put f d v)=r):Hu tb cl h (⟨d,none,o⟩::l) f=r:=by
 simp[Hu,wanted,e,k]
theorem qR{l:List AQ}{y:AC}{f f':Fr}(e:Hu tb (BW tb) h l f=some f'):AS tb (BW tb) (.seq (rg true l) y) f h=AS tb (BW tb) y f' h:=by
 simp[AS,rg,e]
theorem bR{c:AO}{x y:AC}{f:Fr}{b:Bool}(e:eval tb f c= .b b):AS tb (BW tb) (.cond c x y) f h=if b then AS tb (BW tb) x f h else AS tb (BW tb) y f h:=by
 simp[AS,e]
theorem uK{n:Int}{h1 G:Av}(h0:0≤n)(hc:Bs tb (BW tb) h ncc [.ptr id 0]=some (.tup [],some h1))(hld:load h1 false 1 (.ptr id 1)=some .nils)(hg:if 0<n then Bs tb (BW tb) h1 ngr [.ptr id 0, .i .i64 n]=some (.tup [],some G)else G=h1):
  ∃f',AS tb (BW tb) (Qn tS ncc ngr).body [(0, .ptr id 0),(1, .i .i64 n)] h=some (.normal,f',G):=by
 have hn0:decide (n<0)=false:=by simp;omega
 have key: ∃F,AS tb (BW tb) (Qn tS ncc ngr).body [(0, .ptr id 0),(1, .i .i64 n)] h=AS tb (BW tb) (.cond (.t 21)
  (rg false [⟨some 22,none, .mv (.t 0)⟩,⟨some 23,none, .mv (.t 1)⟩,⟨some 24,none, .call ngr [(.t 22),(.t 23)]⟩])
  .skip) F h1∧get F 21= .b (decide (0<n))∧get F 0= .ptr id 0∧get F 1= .i .i64 n:=by
  apply Exists.intro
  refine⟨?_,?_⟩
  ·unfold Qn
   simp only
   refine(In (Mc (v:= .ptr id 0) (u:=none) rfl (Mc (v:= .tup []) (u:=some h1) (UE (by exact hc)) rfl))).trans ?_
   refine(kQ ((In (Mc (v:= .i .i64 n) (u:=none) rfl (Mc (v:= .b false) (u:=none) (by rw[←hn0];rfl) rfl))).trans ((bR (b:=false) rfl).trans rfl))).trans ?_
   exact(qR (mU (v:= .ptr id 0) rfl (mU (v:= .ptr id 0) rfl (mU (v:= .ptr id 1) rfl (mU (v:= .nils) (YE (by exact hld)) (mU (v:= .i .i64 0) rfl (mU (v:= .ptr id 0) rfl (mU (v:= .ptr id 0) rfl (mU (v:= .ptr id 1) rfl (mU (v:= .nils) (YE (by exact hld)) (mU (v:= .i .i64 0) rfl (mU (v:= .i .i64 0) rfl (mU (v:= .i .i64 n) rfl (mU (v:= .b (decide (0<n))) rfl rfl))))))))))))))
  ·exact⟨rfl,rfl,rfl⟩
 obtain⟨F,e,f21,f0,f1⟩:=key
 rw[e,bR (b:=decide (0<n)) (by simpa [eval]using f21)]
 by_cases hp:0<n
 ·rw[if_pos hp]at hg
  rw[if_pos (by simpa using hp)]
  simp only[AS,rg,Bool.false_eq_true,if_false]
  rw[Mc (v:= .ptr id 0) (u:=none) (by simp[Bo,eval,f0]) (Mc (v:= .i .i64 n) (u:=none) (by simp[Bo,eval,get,put,f1]) (Mc (v:= .tup []) (u:=some G) (UE (by exact hg)) rfl))]
  exact⟨_,rfl⟩
 ·rw[if_neg hp]at hg
  rw[if_neg (by simpa using hp),hg]
  exact⟨_,rfl⟩
theorem zL(hf:tb.prim ngw=none∧tb.fns ngw=some (Qn tS ncc ngr))(hcc:tb.prim ncc=none∧tb.fns ncc=some (LY tB nne))(hne:tb.prim nne=some NG)(hgr:tb.prim ngr=some (XZ tB te))(hh:h[id]? =some (.cells (some tB) [a, .nils]))(ha:a= .nilp∨a= .ptr id 0)
  {n:Int} (h0:0≤n) (hm:n≤BR):
  Bs tb (BW tb) h ngw [.ptr id 0, .i .i64 n]=some (.tup [],some (if 0<n then h.set id (.cells (some tB) [.ptr id 0, .orow h.length 0 0 0])++[.row (some te) false 1 []]else h.set id (.cells (some tB) [.ptr id 0, .nils]))):=by
 have hc:=UD hcc hne hh ha
 have hid:=(List.getElem?_eq_some_iff.1 hh).1
 have hs:(h.set id (B5.cells (some tB) [.ptr id 0, .nils]))[id]? =some (.cells (some tB) [.ptr id 0, .nils]):=List.getElem?_set_self hid
 have h2:=Ga hs
 simp only[Bs,hf.1]
 rw[OA,hf.2]
 simp only[Option.bind_some]
 have hld:load (h.set id (B5.cells (some tB) [.ptr id 0, .nils])) false 1 (.ptr id 1)=some .nils:=by simp[load,place,h2.1,GI,sub]
 by_cases hp:0<n
 ·have hgc:Bs tb (BW tb) (h.set id (.cells (some tB) [.ptr id 0, .nils])) ngr [.ptr id 0, .i .i64 n]=some (.tup [],some (h.set id (.cells (some tB) [.ptr id 0, .orow h.length 0 0 0])++[.row (some te) false 1 []])):=by
   simp only[Bs,hgr,XZ,hs]
   simp[h0,hm,List.set_set]
  obtain⟨f',e1⟩:=uK (tb:=tb) (tS:=tS) (ncc:=ncc) (ngr:=ngr) h0 hc hld (by rw[if_pos hp];exact hgc)
  rw[N8 (tb:=tb) (h:=h) (fn:=Qn tS ncc ngr) (args:=[.ptr id 0, .i .i64 n]) (vs:=[]) rfl rfl e1 (.inr rfl) rfl,if_pos hp]
  exact congrArg some (Sn h.length _ (YD (te:=te) (tB:=tB) (s:=[]) hid rfl) [] rfl false)
 ·obtain⟨f',e1⟩:=uK (tb:=tb) (tS:=tS) (ncc:=ncc) (ngr:=ngr) h0 hc hld (by rw[if_neg hp])
  rw[N8 (tb:=tb) (h:=h) (fn:=Qn tS ncc ngr) (args:=[.ptr id 0, .i .i64 n]) (vs:=[]) rfl rfl e1 (.inr rfl) rfl,if_neg hp]
  obtain⟨u,hu,rfl⟩:=KN false h.length (h.set id (.cells (some tB) [.ptr id 0, .nils])) (by simp) [] rfl
  exact congrArg some hu
variable{Γ:Cx}{x y:AO}
def dW(l:AR)(n:Int):Option AR:=if l=[]∧0≤n∧n≤BR then some []else none
theorem M_bldR{d j:Nat}{l:AR}{n:Int}(hcc:tb.prim ncc=none∧tb.fns ncc=some (LY tB nne))(hne:tb.prim nne=some NG)(hf:tb.prim ngw=none∧tb.fns ngw=some (Qn tS ncc ngr))(hgr:tb.prim ngr=some (XZ tB te))
  (ha:Cv tb Γ x (.own j)) (hj:AG Γ.ss j=some (.dom (NB tB te false) l)) (hb:Cv tb Γ y (.val (T.int .i64) n)):
  WG tb Γ (some d) (.call ngw [x,y]) (dW l n) fun _=>⟨(d, .junk)::Γ.ts,(j, .dom (NB tB te (decide (0<n))) ([]:AR))::Γ.ss⟩:=by
 intro E rv fp f H R l' hl'
 simp only[dW]at hl'
 split at hl'
 ·rename_i hm
  cases hl'
  obtain⟨rfl,h0,hm⟩:=hm
  obtain⟨hl,hv⟩:=ha E rv fp f H R
  obtain⟨id,e,⟨_,_,a,hx,hh,hF⟩|⟨hg,r,hne',hh,hr,hF⟩⟩:=R.slots j _ hj
  ·have hid:=AM hh
   have hev:=zL (te:=te) hf hcc hne hgr hh hx h0 hm
   by_cases hp:0<n
   ·rw[if_pos hp]at hev
    obtain⟨rv',fp',g1,g2,g3⟩:=R.dom (D:=NB tB te (decide (0<n))) (y:=([]:AR)) (G:=H.set id (.cells (some tB) [.ptr id 0, .orow H.length 0 0 0])++[.row (some te) false 1 []]) (F':=fun i=>i=id∨i=H.length) (by rw[hj];rfl) hl (by simp)
     (fun i hi hn=>by rw[List.getElem?_append_left (by simpa using hi)];exact List.getElem?_set_ne fun e=>hn ((hF i).2 e.symm))
     (fun i hi=>by
      rcases hi with rfl|rfl
      ·exact .inl ((hF _).2 rfl)
      ·exact .inr ⟨Nat.le_refl _,by simp⟩)
     (by
      rw[OT]
      have:=GN (l:=H) (i:=id) (o:= .cells (some tB) [.ptr id 0, .orow H.length 0 0 0]) (m:=H.length+1) (by have:=R.wf;omega) (by simp only[DI,Bc,Bz];omega)
      simp only[Cw,DI,C4,List.length_append,List.length_set,List.length_cons,List.length_nil]
      omega) rfl
     (fun Q=>⟨id,e, .inr ⟨.inl (by simpa using hp),H.length,by omega,by
      rw[List.getElem?_append_left (by simpa using hid)]
      exact List.getElem?_set_self hid,by
      rw[List.getElem?_append_right (by simp)];simp[Bp],fun i=>Iff.rfl⟩⟩)
    refine⟨.tup [],some _,?_,rv',fp',g3.push (d:=d) (φ:= .junk) trivial⟩
    simp only[Bo,List.map_cons,List.map_nil,hv,e,BK.1 (hb E rv fp f H R)]
    exact hev
   ·rw[if_neg hp]at hev
    obtain⟨rv',fp',g1,g2,g3⟩:=R.dom (D:=NB tB te (decide (0<n))) (y:=([]:AR)) (G:=H.set id (.cells (some tB) [.ptr id 0, .nils])) (F':=fp j) (by rw[hj];rfl) hl (by simp)
     (fun i hi hn=>List.getElem?_set_ne fun e=>hn ((hF i).2 e.symm)) (fun i hi=> .inl hi)
     (by simp only[List.length_set];exact GN R.wf (by simp only[DI,Bc,Bz];omega)) rfl
     (fun Q=>⟨id,e, .inl ⟨by simpa using hp,rfl,_, .inr rfl,List.getElem?_set_self hid,hF⟩⟩)
    refine⟨.tup [],some _,?_,rv',fp',g3.push (d:=d) (φ:= .junk) trivial⟩
    simp only[Bo,List.map_cons,List.map_nil,hv,e,BK.1 (hb E rv fp f H R)]
    exact hev
  ·rcases hg with hg|hg
   ·cases hg
   ·exact absurd rfl hg
 ·cases hl'
end
end Go.Proofs.YtobejhpigbllpaaGreatDoor.Am
namespace Go.Proofs.YtobejhpigbllpaaGreatDoor.Am
section
variable{tb:CD}{Γ:Cx}
variable{ks:List Kf}{ρ:Type}{Q:Lf ρ}
def Ps(n:Int):UInt8:=UInt8.ofNat (n%256).toNat
def Vw(n:Int):UInt16:=UInt16.ofNat (n%65536).toNat
def CP(n:Int):UInt32:=UInt32.ofNat (n%4294967296).toNat
def Co(n:Int):UInt64:=UInt64.ofNat (n%18446744073709551616).toNat
def Wq(a b:List UInt8):Int:=Extern.BytealgCompare.cmp ⟨a.toArray⟩ ⟨b.toArray⟩
theorem RI.bytes{P:Nat→Prop}{H:Av}{v:AV}{g:GS UInt8}(h:(T.sl T.u8).V P H v g):OD H v=some g.l:=by
 obtain⟨els,e,h'⟩:=(Jc.1 h).els
 have e':Es H 1 v=some els:=e
 have hs: ∀l,v≠ .s l:=by rintro l rfl;simp[Es]at e'
 cases v<;>first
  |exact absurd rfl (hs _)
  |(simp only[OD,e',Option.bind_some];exact SP h')
theorem Spec.cmp{g:Nat}(hp:tb.prim g=some Oo):Spec tb g [T.sl T.u8,T.sl T.u8] [T.int .i64] fun a=>some (Wq a.1.l a.2.l):=by
 rintro P h args ⟨x,y⟩ _ _ ⟨v,q,rfl,h1,w,rfl,h2⟩ r hr
 cases hr
 refine⟨.i .i64 (Wq x.l y.l),none,?_,rfl,[.i .i64 (Wq x.l y.l)],rfl,_,rfl,BK.2 rfl⟩
 simp only[Bs,hp,Oo,RI.bytes h1,RI.bytes h2,Option.bind_some,Option.map_some]
 rfl
end
end Go.Proofs.YtobejhpigbllpaaGreatDoor.Am
