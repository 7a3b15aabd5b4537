/-
  Regions: in the order of the text; in any order that the tape draws.
  A region whose order is drawn: one walk, in the order of the text, serves every order.
  The machine's code and the model's; what it runs is what the model runs.
  What a call comes to in the machine, it comes to in the model.
  A call of the machine's is the model's.
  Functions that the machine takes as they are said: those that the model knows as entries of its own.
  Entries of the model's that the machine takes as they are said: a byte's place in bytes, how often it is there.
  What operations come to, on typed values: calls, equality, arrays.
  What operations come to, on typed values: pointers that are only read through.
  A text's runes, one behind another one.
  Regions whose order is drawn, where each operation that reads memory has one place.
  strings.Builder: what its methods come to, on a builder in memory of its own.
  strings.Builder: a builder in memory of its own as one thing, its bytes.
  Values that are kept: functions, structures with functions; calls whose code is walked in place.
  Calls whose code is walked in place.
  What operations come to, on kept values: rows of them, variables with parts, loops that are unrolled.
  Tests that wait for others, by cases; slices of arrays; literals of arrays; tables.
  Tests that wait inside regions whose order is drawn; tables; maps.
  Ways that meet again, each walked once: what comes behind them is told apart from them.
  strings.Builder's grow as a function that the machine takes as it is said.
  strings.Builder: room from the start.
  Variables in parts; what is cleared of a row.
  Slices of one's own cells that are handed on as they are; a slice as an array; tests that write.
-/
import Derived.Still
import Derived.Tactics
import Derived.LoopN
import Derived.Scope
import Derived.Control
import Derived.Laws.Sem
import GoSem.Extern.Table
import Derived.Lib.Bytealg
import Derived.Lib.MakeNoZero
import Derived.Test.YtobejhpigbllpaaGreatDoorX1
namespace Go.Proofs.YtobejhpigbllpaaGreatDoor.Am
def Wh(rs:Array Oper):Option(Nat×Bool)→Option(Nat×Bool)→Bool
 |none,none=>true
 |some(t,w),some(j,w')=>w==w'&&(rs[j]?).bind(·.dst)==some t
 |_,_=>false
def Xd(T:HT→Oper→Bool)(nt:Nat)(rs:Array Oper)(ao:AU)(o:Oper):Bool:=
 decide(ao.d=o.dst)&&(match o.dst with|some t=>decide(t<nt)|none=>true)&&Wh rs ao.g o.guard&&T ao.o o
def Gx(T:HT→Oper→Bool)(nt:Nat)(rs:Array Oper):List AU→List Oper→Bool
 |[],[]=>true
 |x::l,o::r=>Xd T nt rs x o&&Gx T nt rs l r
 |_,_=>false
section
variable {T:HT→Oper→Bool}{P:Program}{tb:CZ}{cl:Nat→List AV→Av→KH}{nt:Nat}{rs:Array Oper}
theorem Wv{C:Dw}{f:Fr}{a:Act}(F:Bt C f a nt){g:Option(Nat×Bool)}{o:Oper}(h:Wh rs g o.guard=true){b:Bool}(hw:wanted f g=some b):
  Region.wanted o(yielded rs a.tmps)=b:=by
 unfold Wh at h
 split at h
 ·rename_i hg
  simp only[wanted,Option.some.injEq]at hw
  subst hw
  simp[Region.wanted,hg]
 ·rename_i t w j w' hg
  simp only[Bool.and_eq_true,beq_iff_eq]at h
  obtain⟨rfl,hj⟩:=h
  simp only[wanted]at hw
  split at hw
  ·rename_i x hx
   simp only[Option.some.injEq]at hw
   subst hw
   have r:=F.rep t
   rw[hx]at r
   have r':a.tmps.getD t undef= .bool x:=r
   have hs:a.tmps[t]? =some(.bool x):=by
    rw[Array.getD_eq_getD_getElem?]at r'
    cases ht:a.tmps[t]? with
    |none=>rw[ht]at r';simp[undef]at r'
    |some v=>rw[ht]at r';simpa using r'
   simp only[Region.wanted,hg,yielded,hj,Option.bind_some,hs]
   cases x<;>cases w<;>rfl
  ·rename_i hx
   simp only[Option.some.injEq]at hw
   subst hw
   have r:=F.rep t
   rw[hx]at r
   obtain⟨vs,r',hv⟩:=r
   have hv':vs=[]:=hv
   subst hv'
   rw[Array.getD_eq_getD_getElem?]at r'
   simp only[Region.wanted,hg,yielded,hj,Option.bind_some]
   cases ht:a.tmps[t]? with
   |none=>rfl
   |some v=>
    rw[ht]at r'
    simp only[Option.getD_some]at r'
    subst r'
    rfl
  ·cases hw
 ·cases h
theorem UH{ao:AU}{o:Oper}(h:Xd T nt rs ao o=true):ao.d=o.dst∧(∀t,o.dst=some t→t<nt)∧Wh rs ao.g o.guard=true∧T ao.o o=true:=by
 simp only[Xd,Bool.and_eq_true,decide_eq_true_eq]at h
 obtain⟨⟨⟨h1,h2⟩,h3⟩,h4⟩:=h
 refine⟨h1,fun t ht=> ?_,h3,h4⟩
 rw[ht]at h2
 simpa using h2
theorem sT(hT: ∀ao o,T ao o=true→Dt P tb ao o)(hcl:F0 P tb fun g args h=>B3 tb cl h g args){Q:Exit→Act→World→Prop}:
  ∀(l:List AU)(os:List Oper),Gx T nt rs l os=true→ ∀{C:Dw}{f:Fr}{a:Act},DQ tb C→Bt C f a nt→ ∀{f':Fr}{h':Av},ops tb cl l f C.H=some(f',h')→
   (∀(D:Dw)(a':Act),Lb C D→DQ tb D→D.H=h'→Bt D f' a' nt→Q .normal a' D.w)→wpList P rs Q os a C.w:=by
 intro l
 induction l with
 |nil=>
  intro os h C f a I F f' h' e k
  cases os with
  |cons o os=>simp[Gx]at h
  |nil=>
   simp only[ops,Option.some.injEq,Prod.mk.injEq]at e
   obtain⟨rfl,rfl⟩:=e
   exact k C a(J7 C)I rfl F
 |cons ao l ih=>
  intro os h C f a I F f' h' e k
  cases os with
  |nil=>simp[Gx]at h
  |cons o os=>
   simp only[Gx,Bool.and_eq_true]at h
   obtain⟨h1,h2⟩:=h
   obtain⟨g1,g2,g3,g4⟩:=UH h1
   simp only[ops]at e
   obtain⟨b,hb,e⟩:=Option.bind_eq_some_iff.1 e
   have hw:=Wv F g3 hb
   simp only[wpList,hw]
   cases b with
   |true=>
    simp only[if_true]at e ⊢
    obtain⟨p,hp,e⟩:=Option.bind_eq_some_iff.1 e
    refine .inl(U8(hT _ _ g4 hcl I F hp)fun v D X ID hH hr=> ?_)
    rw[←g1]
    refine ih os h2 ID(F.put X(fun t ht=>g2 t(g1▸ht))hr)(by rw[hH];exact e)fun D' a' X'=>k D' a'(X.trans X')
   |false=>
    simp only[Bool.false_eq_true,if_false]at e ⊢
    rw[←g1]
    exact ih os h2 I(F.put(J7 C)(fun t ht=>g2 t(g1▸ht))(x:= .tup [])⟨[],rfl,rfl⟩)e k
theorem sF(hT: ∀ao o,T ao o=true→Dt P tb ao o)(hcl:F0 P tb fun g args h=>B3 tb cl h g args){Q:Exit→Act→World→Prop}{l:List AU}{id:Nat}
  (h:Gx T nt rs l rs.toList=true){C:Dw}{f:Fr}{a:Act}(I:DQ tb C)(F:Bt C f a nt){f':Fr}{h':Av}(e:ops tb cl l f C.H=some(f',h'))
  (k: ∀(D:Dw)(a':Act),Lb C D→DQ tb D→D.H=h'→Bt D f' a' nt→Q .normal a' D.w):(Code.region id rs false).wp P Q a C.w:=
 wp_region_list(sT hT hcl l _ h I F e k)
def Gs:AO→List Nat
 | .t n=>[n]
 |_=>[]
def ooT:Option AO→List Nat
 |some x=>Gs x
 |none=>[]
def opT:HT→List Nat
 | .mv x=>Gs x
 | .pick c a b=>Gs c++Gs a++Gs b
 | .alloc _ _=>[]
 | .box _ _ x=>Gs x
 | .bld _ ps=>ps.flatMap fun p=>Gs p.2.2
 | .bls _ _ _ ps=>ps.flatMap fun p=>Gs p.2
 | .bll _ _ ps=>ps.flatMap fun p=>Gs p.2
 | .ld _ _ a=>Gs a
 | .st _ a x=>Gs a++Gs x
 | .nilc x=>Gs x
 | .bin _ x y=>Gs x++Gs y
 | .eq _ _ x y=>Gs x++Gs y
 | .un _ x=>Gs x
 | .cvi _ x=>Gs x
 | .cvid x=>Gs x
 | .cvb _ x=>Gs x
 | .cvr x=>Gs x
 | .cvs x=>Gs x
 | .cvc x=>Gs x
 | .mkf _ a b=>a.flatMap Gs++b.flatMap Gs
 | .mkm=>[]
 | .mks _ _ _ _ l c=>Gs l++Gs c
 | .sls x lo hi=>Gs x++ooT lo++ooT hi
 | .sll _ x lo hi=>Gs x++ooT lo++ooT hi
 | .sla _ _ x lo hi=>Gs x++ooT lo++ooT hi
 | .fa _ x=>Gs x
 | .fld _ _ _ x=>Gs x
 | .ias _ x i=>Gs x++Gs i
 | .iaa _ _ x i=>Gs x++Gs i
 | .ixa _ _ _ x i=>Gs x++Gs i
 | .ixs x i=>Gs x++Gs i
 | .lkp _ _ _ m k=>Gs m++Gs k
 | .mup _ m k v=>Gs m++Gs k++Gs v
 | .rng x=>Gs x
 | .nxt x=>Gs x
 | .ext x _=>Gs x
 | .s2a _ _ x=>Gs x
 | .mkif _ x=>Gs x
 | .call _ xs=>xs.flatMap Gs
 | .callv x xs=>Gs x++xs.flatMap Gs
 | .len x=>Gs x
 | .lens x=>Gs x
 | .app _ _ _ s x=>Gs s++Gs x
 | .cpy _ d s=>Gs d++Gs s
 | .mnx _ x y=>Gs x++Gs y
 | .clr _ x=>Gs x
 | .del _ m k=>Gs m++Gs k
 | .lenm m=>Gs m
 | .cvp x=>Gs x
 | .cvu _ _ x=>Gs x
 | .eqp _ x y=>Gs x++Gs y
 | .isni _ x=>Gs x
 | .capn x=>Gs x
 | .usd x=>Gs x
 | .ust _ x n=>Gs x++Gs n
 | .die=>[]
def Ff(_:CZ)(f f':Fr)(ts:List Nat):Prop:= ∀t∈ts,get f t=get f' t
theorem Ff.l{tb:CZ}{f f':Fr}{x y:List Nat}(h:Ff tb f f'(x++y)):Ff tb f f' x:=fun t ht=>h t(List.mem_append_left _ ht)
theorem Ff.r{tb:CZ}{f f':Fr}{x y:List Nat}(h:Ff tb f f'(x++y)):Ff tb f f' y:=fun t ht=>h t(List.mem_append_right _ ht)
theorem Ff.e{f f':Fr}{x:AO}(h:Ff tb f f'(Gs x)):eval tb f x=eval tb f' x:=by
 cases x with
 |t n=>exact h n(by simp[Gs])
 |_=>rfl
theorem Ff.es{f f':Fr}: ∀{xs:List AO},Ff tb f f'(xs.flatMap Gs)→xs.map(eval tb f)=xs.map(eval tb f')
 |[],_=>rfl
 |x::xs,h=>by
  rw[List.flatMap_cons]at h
  rw[List.map_cons,List.map_cons,h.l.e,Ff.es h.r]
theorem Ff.b{f f':Fr}{lo hi:Option AO}{n:Nat}(h:Ff tb f f'(ooT lo))(h':Ff tb f f'(ooT hi)):Ht(eval tb f)n lo hi=Ht(eval tb f')n lo hi:=by
 cases lo<;>cases hi
 ·rfl
 ·have e':=Ff.e h'
  simp only[Ht,e']
 ·have e:=Ff.e h
  simp only[Ht,e]
 ·have e:=Ff.e h
  have e':=Ff.e h'
  simp only[Ht,e,e']
theorem Ff.fl{f f':Fr}: ∀{ps:List(Nat×Nat×AO)}{z:List AV},Ff tb f f'(ps.flatMap fun p=>Gs p.2.2)→Mn z(eval tb f)ps=Mn z(eval tb f')ps
 |[],_,_=>rfl
 |(off,n,x)::ps,z,h=>by
  rw[List.flatMap_cons]at h
  simp only[Mn]
  rw[h.l.e]
  split
  ·exact Ff.fl h.r
  ·rfl
theorem Ff.fe{f f':Fr}{sz:Nat}: ∀{ps:List(Nat×AO)}{z:List(List AV)},Ff tb f f'(ps.flatMap fun p=>Gs p.2)→Mo z sz(eval tb f)ps=Mo z sz(eval tb f')ps
 |[],_,_=>rfl
 |(i,x)::ps,z,h=>by
  rw[List.flatMap_cons]at h
  simp only[Mo]
  rw[h.l.e]
  split
  ·exact Ff.fe h.r
  ·rfl
theorem aQ{f f':Fr}{h:Av}: ∀{o:HT},Ff tb f f'(opT o)→Bq tb cl(eval tb f)h o=Bq tb cl(eval tb f')h o:=by
 intro o a
 cases o<;>simp only[opT]at a<;>simp only[Bq]
 case bld=>rw[a.fl]
 case bls=>rw[a.fe]
 case bll=>rw[a.fe]
 case mkf=>rw[a.l.es,a.r.es]
 case sls=>rw[a.l.l.e];split<;>first|rfl|rw[Ff.b a.l.r a.r]
 case sll=>rw[a.l.l.e];congr;funext n;rw[Ff.b a.l.r a.r]
 case sla=>rw[a.l.l.e,Ff.b a.l.r a.r]
 case call=>rw[a.es]
 case callv=>rw[a.l.e,a.r.es]
 case pick=>rw[a.l.l.e,a.l.r.e,a.r.e]
 case mup=>rw[a.l.l.e,a.l.r.e,a.r.e]
 all_goals first
  |rw[a.l.e,a.r.e]
  |rw[a.e]
def gT:Option(Nat×Bool)→List Nat
 |some(t,_)=>[t]
 |none=>[]
theorem bA{f f':Fr}{g:Option(Nat×Bool)}(a:Ff tb f f'(gT g)):wanted f g=wanted f' g:=by
 cases g with
 |none=>rfl
 |some p=>
  obtain⟨t,w⟩:=p
  simp only[wanted]
  rw[a t(by simp[gT])]
def FO:List(Option(Nat×Nat))→Nat→Nat
 |_,0=>0
 |[],_+1=>0
 |none::w,i+1=>FO w i+1
 |some _::w,i+1=>FO w i
def Wo(tb:CZ)(cl:Nat→List AV→Av→KH)(hs:List Av)(k:Nat)(ao:AU)(w:Option(Nat×Nat))(f:Fr)(v:AV):Prop:=
 ∃t,wanted f ao.g=some t∧(t=false→v= .tup []∧(w=none→hs[k]? =hs[k+1]?))∧
  (t=true→(w=none→ ∃h u,hs[k]? =some h∧Bq tb cl(eval tb f)h ao.o=some(v,u)∧hs[k+1]? =some(u.getD h))∧
   ∀lo hi,w=some(lo,hi)→ ∀j,lo≤j→j≤hi→ ∃h u,hs[j]? =some h∧Bq tb cl(eval tb f)h ao.o=some(v,u)∧u.getD h=h)
theorem sV{hs:List Av}: ∀(l:List AU)(ws:List(Option(Nat×Nat)))(k:Nat)(f f':Fr),JA tb cl hs l ws k f=some f'→
  ∃(fr:Nat→Fr)(vl:Nat→AV),fr 0=f∧fr l.length=f'∧k+FO ws l.length+1=hs.length∧
   ∀i ao,l[i]? =some ao→fr(i+1)=put(fr i)ao.d(vl i)∧ ∃w,ws[i]? =some w∧Wo tb cl hs(k+FO ws i)ao w(fr i)(vl i):=by
 intro l
 induction l with
 |nil=>
  intro ws k f f' e
  simp only[JA]at e
  split at e
  ·rename_i hk
   obtain rfl:=Option.some.inj e
   exact⟨fun _=>f,fun _=> .junk,rfl,rfl,by simpa [FO]using hk,fun i ao h=>(by simp at h)⟩
  ·cases e
 |cons ao l ih=>
  intro ws k f f' e
  simp only[JA]at e
  obtain⟨t,ht,e⟩:=Option.bind_eq_some_iff.1 e
  have glue: ∀(w:Option(Nat×Nat))(ws':List(Option(Nat×Nat)))(v:AV)(k':Nat),ws=w::ws'→k'=k+(match w with|none=>1|some _=>0)→Wo tb cl hs k ao w f v→
    JA tb cl hs l ws' k'(put f ao.d v)=some f'→ ∃(fr:Nat→Fr)(vl:Nat→AV),fr 0=f∧fr(ao::l).length=f'∧k+FO ws(ao::l).length+1=hs.length∧
     ∀i x,(ao::l)[i]? =some x→fr(i+1)=put(fr i)x.d(vl i)∧ ∃w,ws[i]? =some w∧Wo tb cl hs(k+FO ws i)x w(fr i)(vl i):=by
   intro w ws' v k' hws hk hst h
   subst hws
   obtain⟨fr,vl,h0,h1,h2,h3⟩:=ih ws' k' _ f' h
   have hrank: ∀i,k+FO(w::ws')(i+1)=k'+FO ws' i:=by
    intro i
    subst hk
    cases w<;>simp only[FO]<;>omega
   refine⟨fun i=>match i with|0=>f|i+1=>fr i,fun i=>match i with|0=>v|i+1=>vl i,rfl,h1,by rw[List.length_cons,hrank];exact h2,?_⟩
   intro i x hx
   cases i with
   |zero=>
    simp only[List.getElem?_cons_zero,Option.some.injEq]at hx
    subst hx
    exact⟨h0,w,rfl,hst⟩
   |succ i=>
    obtain⟨g1,w',g2,g3⟩:=h3 i x(by simpa using hx)
    exact⟨g1,w',by simpa using g2,by rw[hrank];exact g3⟩
  cases t with
  |true=>
   simp only[if_true]at e
   obtain⟨h,hh,e⟩:=Option.bind_eq_some_iff.1 e
   obtain⟨p,hp,e⟩:=Option.bind_eq_some_iff.1 e
   cases ws with
   |nil=>simp at e
   |cons w0 w=>
    cases w0 with
    |none=>
     simp only[]at e
     split at e
     ·rename_i hn
      exact glue none w p.1(k+1)rfl rfl⟨true,ht,fun e=>(by cases e),fun _=>⟨fun _=>⟨h,p.2,hh,hp,hn.symm⟩,fun lo hi e=>(by cases e)⟩⟩e
     ·cases e
    |some q=>
     obtain⟨lo,hi⟩:=q
     simp only[]at e
     split at e
     ·rename_i hn
      refine glue(some(lo,hi))w p.1 k rfl rfl⟨true,ht,fun e=>(by cases e),fun _=>⟨fun e=>(by cases e),?_⟩⟩e
      intro lo' hi' e' j hj hj'
      simp only[Option.some.injEq,Prod.mk.injEq]at e'
      obtain⟨rfl,rfl⟩:=e'
      rw[List.all_eq_true]at hn
      have:=hn j(List.mem_range'_1.2⟨hj,by omega⟩)
      simp only[decide_eq_true_eq]at this
      obtain⟨u,hu,hu'⟩:=this
      obtain⟨h',hh',hu⟩:=Option.bind_eq_some_iff.1 hu
      refine⟨h',u,hh',hu,?_⟩
      rw[hh']at hu'
      simpa using hu'
     ·cases e
  |false=>
   simp only[Bool.false_eq_true,if_false]at e
   cases ws with
   |nil=>simp at e
   |cons w0 w=>
    cases w0 with
    |none=>
     simp only[]at e
     split at e
     ·rename_i hn
      exact glue none w(.tup [])(k+1)rfl rfl⟨false,ht,fun _=>⟨rfl,fun _=>hn⟩,fun e=>(by cases e)⟩e
     ·cases e
    |some q=>
     exact glue(some q)w(.tup [])k rfl rfl⟨false,ht,fun _=>⟨rfl,fun e=>(by cases e)⟩,fun e=>(by cases e)⟩e
end
end Go.Proofs.YtobejhpigbllpaaGreatDoor.Am
namespace Go.Proofs.YtobejhpigbllpaaGreatDoor.Am
def QR(rs:Array Oper)(i:Nat):List Nat:=
 match rs[i]? with
 |some o=>(o.after.toList.filter(Region.binds .any)).map(·.on)
 |none=>[]
def Tu(rs:Array Oper):Nat→Nat→Nat→Bool
 |0,_,_=>false
 |n+1,j,i=>(QR rs i).any(fun e=>Nat.beq e j)||(QR rs i).any fun e=>Tu rs n j e
theorem JZ{rs:Array Oper}{L:Nat→Prop}(hd: ∀i,L i→ ∀e∈QR rs i,L e): ∀{n j i:Nat},Tu rs n j i=true→(∀e∈QR rs i,L e)→L j
 |0,_,_,h,_=>by simp[Tu]at h
 |n+1,j,i,h,hi=>by
  simp only[Tu,List.any_eq_true,Bool.or_eq_true,Nat.beq_eq]at h
  rcases h with⟨e,he,rfl⟩|⟨e,he,h⟩
  ·exact hi _ he
  ·exact JZ hd h(hd e(hi e he))
def looks(ao:AU):List Nat:=gT ao.g++opT ao.o
def TW(rs:Array Oper)(l:List AU)(ws:List(Option(Nat×Nat)))(i j:Nat):Bool:=
 match l[i]?,l[j]? with
 |some x,some y=>
  (match x.d with|some t=>decide(y.d≠some t)|none=>true)&&
  (match y.d with|some t=> !(looks x).contains t||(if j<i then Tu rs rs.size j i else Tu rs rs.size i j)|none=>true)&&
  (match ws[i]?,ws[j]? with
   |some none,some none=> !decide(j<i)||Tu rs rs.size j i
   |some(some(lo,hi)),some none=>(!decide(FO ws j<lo)||Tu rs rs.size j i)&&(!decide(hi≤FO ws j)||Tu rs rs.size i j)
   |_,_=>true)
 |_,_=>true
def okD(T:HT→Oper→Bool)(nt:Nat)(rs:Array Oper)(l:List AU)(ws:List(Option(Nat×Nat))):Bool:=
 Gx T nt rs l rs.toList&&(List.range rs.size).all fun i=>
  (QR rs i).all(fun e=>decide(e<i))&&
  (match ws[i]? with|some(some(lo,_))=>decide(lo≤FO ws rs.size)|_=>true)&&
  (List.range rs.size).all fun j=>i==j||TW rs l ws i j
theorem Wj(f:Fr)(d:Option Nat)(v:AV)(t:Nat):get(put f d v)t=if d=some t then v else get f t:=by
 cases d with
 |none=>simp[put]
 |some u=>simp[put,get]
theorem PA{T:HT→Oper→Bool}{nt:Nat}{rs:Array Oper}: ∀{l:List AU}{os:List Oper},Gx T nt rs l os=true→l.length=os.length
 |[],[],_=>rfl
 |[],_::_,h=>by simp[Gx]at h
 |_::_,[],h=>by simp[Gx]at h
 |_::_,_::_,h=>by
  simp only[Gx,Bool.and_eq_true]at h
  simp[PA h.2]
theorem UG{T:HT→Oper→Bool}{nt:Nat}{rs:Array Oper}: ∀{l:List AU}{os:List Oper}{i:Nat}{x:AU}{o:Oper},Gx T nt rs l os=true→l[i]? =some x→os[i]? =some o→Xd T nt rs x o=true
 |[],_,_,_,_,_,h,_=>by simp at h
 |_::_,[],_,_,_,_,_,h=>by simp at h
 |_::_,_::_,0,_,_,h,h1,h2=>by
  simp only[Gx,Bool.and_eq_true]at h
  simp only[List.getElem?_cons_zero,Option.some.injEq]at h1 h2
  subst h1;subst h2
  exact h.1
 |_::_,_::_,i+1,_,_,h,h1,h2=>by
  simp only[Gx,Bool.and_eq_true]at h
  exact UG h.2(i:=i)(by simpa using h1)(by simpa using h2)
theorem We: ∀{ws:List(Option(Nat×Nat))}{i j:Nat},ws[i]? =some none→i<j→FO ws i<FO ws j
 |[],_,_,h,_=>by simp at h
 |_,_,0,_,h=>by omega
 |none::ws,0,j+1,_,_=>by simp only[FO];omega
 |some _::ws,0,j+1,h,_=>by simp at h
 |none::ws,i+1,j+1,h,h'=>by
  have:=We(ws:=ws)(i:=i)(j:=j)(by simpa using h)(by omega)
  simp only[FO];omega
 |some _::ws,i+1,j+1,h,h'=>by
  have:=We(ws:=ws)(i:=i)(j:=j)(by simpa using h)(by omega)
  simp only[FO];omega
theorem NU: ∀{ws:List(Option(Nat×Nat))}{n k:Nat},k<FO ws n→ ∃j,j<n∧ws[j]? =some none∧FO ws j=k
 |_,0,_,h=>by simp[FO]at h
 |[],_+1,_,h=>by simp[FO]at h
 |none::ws,n+1,0,_=>⟨0,by omega,rfl,rfl⟩
 |none::ws,n+1,k+1,h=>by
  obtain⟨j,h1,h2,h3⟩:=NU(ws:=ws)(n:=n)(k:=k)(by simp only[FO]at h;omega)
  exact⟨j+1,by omega,by simpa using h2,by simp only[FO,h3]⟩
 |some _::ws,n+1,k,h=>by
  obtain⟨j,h1,h2,h3⟩:=NU(ws:=ws)(n:=n)(k:=k)(by simpa [FO]using h)
  exact⟨j+1,by omega,by simpa using h2,by simp only[FO,h3]⟩
section
variable {T:HT→Oper→Bool}{P:Program}{tb:CZ}{cl:Nat→List AV→Av→KH}{nt:Nat}{rs:Array Oper}{l:List AU}{ws:List(Option(Nat×Nat))}{hs:List Av}{fr:Nat→Fr}{vl:Nat→AV}
def On(listed:Array Bool)(i:Nat):Prop:=listed.getD i false=true
structure St(rs:Array Oper)(l:List AU)(ws:List(Option(Nat×Nat)))(hs:List Av)(fr:Nat→Fr)(vl:Nat→AV)(listed:Array Bool)(H:Av)(f:Fr):Prop where
 size:listed.size=rs.size
 down: ∀i,On listed i→ ∀e∈QR rs i,On listed e
 heap: ∃k,hs[k]? =some H∧ ∀j,j<rs.size→ws[j]? =some none→(On listed j↔FO ws j<k)
 vals: ∀i ai t,On listed i→l[i]? =some ai→ai.d=some t→get f t=vl i
 rest: ∀t,(∀i ai,On listed i→l[i]? =some ai→ai.d≠some t)→get f t=get(fr 0)t
theorem TV{listed:Array Bool}{i j:Nat}(hi:i<listed.size):On(listed.setIfInBounds i true)j↔j=i∨On listed j:=by
 unfold On
 by_cases h:i=j
 ·subst h;simp[Array.getD_eq_getD_getElem?,hi]
 ·rw[getD_set_ne false h]
  exact⟨.inr,fun e=>e.resolve_left(Ne.symm h)⟩
theorem Zx{i:Nat}{o:Oper}(h:rs[i]? =some o){e:Nat}:e∈QR rs i↔ ∃x∈o.after,Region.binds .any x=true∧x.on=e:=by
 simp only[QR,h,List.mem_map,List.mem_filter,Array.mem_toList_iff]
 exact⟨fun⟨x,⟨h1,h2⟩,h3⟩=>⟨x,h1,h2,h3⟩,fun⟨x,h1,h2,h3⟩=>⟨x,⟨h1,h2⟩,h3⟩⟩
theorem TQ{listed:Array Bool}(hsz:listed.size=rs.size){i:Nat}:i∈Region.ready .any rs listed↔i<rs.size∧ ¬On listed i∧ ∀e∈QR rs i,On listed e:=by
 rw[mem_ready]
 constructor
 ·rintro⟨h1,o,ho,h2⟩
  have hi:i<rs.size:=(Array.getElem?_eq_some_iff.1 ho).1
  refine⟨hi,fun h=> ?_,fun e he=> ?_⟩
  ·unfold On at h
   simp[Array.getD_eq_getD_getElem?,show i<listed.size by omega]at h h1
   rw[h1]at h;cases h
  ·obtain⟨x,hx,hb,rfl⟩:=(Zx ho).1 he
   exact h2 x hx hb
 ·rintro⟨hi,h1,h2⟩
  obtain⟨o,ho⟩: ∃o,rs[i]? =some o:=⟨rs[i],Array.getElem?_eq_getElem hi⟩
  refine⟨?_,o,ho,fun x hx hb=>h2 _((Zx ho).2⟨x,hx,hb,rfl⟩)⟩
  unfold On at h1
  simp[Array.getD_eq_getD_getElem?,show i<listed.size by omega]at h1 ⊢
  exact h1
theorem xS(h:okD T nt rs l ws=true):l.length=rs.size∧(∀(i:Nat)(x:AU)(o:Oper),l[i]? =some x→rs[i]? =some o→Xd T nt rs x o=true)∧(∀i,i<rs.size→ ∀e∈QR rs i,e<i)∧
  (∀(i j:Nat)(x y:AU)(t:Nat),l[i]? =some x→l[j]? =some y→i≠j→x.d=some t→y.d≠some t)∧
  (∀(i j:Nat)(x y:AU)(t:Nat),l[i]? =some x→l[j]? =some y→y.d=some t→t∈looks x→(j<i∧Tu rs rs.size j i=true)∨(i<j∧Tu rs rs.size i j=true)∨i=j)∧
  (∀i j,i<rs.size→j<rs.size→i≠j→ws[i]? =some none→ws[j]? =some none→j<i→Tu rs rs.size j i=true)∧
  (∀i j lo hi,i<rs.size→j<rs.size→ws[i]? =some(some(lo,hi))→ws[j]? =some none→(FO ws j<lo→Tu rs rs.size j i=true)∧(hi≤FO ws j→Tu rs rs.size i j=true))∧
  (∀i lo hi,i<rs.size→ws[i]? =some(some(lo,hi))→lo≤FO ws rs.size):=by
 simp only[okD,Bool.and_eq_true,List.all_eq_true,List.mem_range,decide_eq_true_eq,Bool.or_eq_true,beq_iff_eq]at h
 obtain⟨h1,h2⟩:=h
 have hlen:l.length=rs.size:=by rw[PA h1];simp
 have lt: ∀{i x},l[i]? =some x→i<rs.size:=fun{i x}e=>by have:=AT e;omega
 have pair: ∀i j,i<rs.size→j<rs.size→i≠j→TW rs l ws i j=true:=fun i j hi hj hne=>((h2 i hi).2 j hj).resolve_left hne
 refine⟨hlen,fun i x o hx ho=>UG h1 hx(by simpa using ho),fun i hi=>(h2 i hi).1.1,?_,?_,?_,?_,fun i lo hi hil hw=> ?_⟩
 ·intro i j x y t hx hy hne hd
  have:=pair i j(lt hx)(lt hy)hne
  simp only[TW,hx,hy,hd,Bool.and_eq_true,decide_eq_true_eq]at this
  exact this.1.1
 ·intro i j x y t hx hy hd ht
  by_cases hij:i=j
  ·exact .inr(.inr hij)
  ·have:=pair i j(lt hx)(lt hy)hij
   simp only[TW,hx,hy,hd,Bool.and_eq_true,Bool.or_eq_true,Bool.not_eq_true']at this
   rcases this.1.2 with h|h
   ·simp[ht]at h
   ·by_cases hlt:j<i
    ·rw[if_pos hlt]at h
     exact .inl⟨hlt,h⟩
    ·rw[if_neg hlt]at h
     exact .inr(.inl⟨by omega,h⟩)
 ·intro i j hi hj hne hwi hwj hlt
  have:=pair i j hi hj hne
  obtain⟨x,hx⟩: ∃x,l[i]? =some x:=⟨_,List.getElem?_eq_getElem(by omega)⟩
  obtain⟨y,hy⟩: ∃x,l[j]? =some x:=⟨_,List.getElem?_eq_getElem(by omega)⟩
  simp only[TW,hx,hy,hwi,hwj,Bool.and_eq_true,Bool.or_eq_true,Bool.not_eq_true',decide_eq_false_iff_not]at this
  exact this.2.resolve_left(by omega)
 ·intro i j lo hi hil hjl hwi hwj
  have hne:i≠j:=by rintro rfl;rw[hwi]at hwj;cases hwj
  have:=pair i j hil hjl hne
  obtain⟨x,hx⟩: ∃x,l[i]? =some x:=⟨_,List.getElem?_eq_getElem(by omega)⟩
  obtain⟨y,hy⟩: ∃x,l[j]? =some x:=⟨_,List.getElem?_eq_getElem(by omega)⟩
  simp only[TW,hx,hy,hwi,hwj,Bool.and_eq_true,Bool.or_eq_true,Bool.not_eq_true',decide_eq_false_iff_not]at this
  exact⟨fun h=>this.2.1.resolve_left(by omega),fun h=>this.2.2.resolve_left(by omega)⟩
 ·have:=(h2 i hil).1.2
  simpa only[hw,decide_eq_true_eq]using this
theorem Xj(hstep: ∀i ao,l[i]? =some ao→fr(i+1)=put(fr i)ao.d(vl i))(h3: ∀(i j:Nat)(x y:AU)(t:Nat),l[i]? =some x→l[j]? =some y→i≠j→x.d=some t→y.d≠some t):
  ∀m,m≤l.length→(∀i x t,i<m→l[i]? =some x→x.d=some t→get(fr m)t=vl i)∧(∀t,(∀i x,i<m→l[i]? =some x→x.d≠some t)→get(fr m)t=get(fr 0)t)
 |0,_=>⟨fun _ _ _ h=>by omega,fun _ _=>rfl⟩
 |m+1,hm=>by
  obtain⟨q1,q2⟩:=Xj hstep h3 m(by omega)
  obtain⟨x,hx⟩: ∃x,l[m]? =some x:=⟨_,List.getElem?_eq_getElem(by omega)⟩
  rw[hstep m x hx]
  refine⟨fun i y t hi hy hd=> ?_,fun t ht=> ?_⟩
  ·rw[Wj]
   by_cases him:i=m
   ·subst him
    rw[hx]at hy
    obtain rfl:=Option.some.inj hy
    rw[if_pos hd]
   ·rw[if_neg(h3 i m y x t hy hx him hd)]
    exact q1 i y t(by omega)hy hd
  ·rw[Wj,if_neg(ht m x(by omega)hx)]
   exact q2 t fun i y hi=>ht i y(by omega)
theorem uS(hT: ∀ao o,T ao o=true→Dt P tb ao o)(hcl:F0 P tb fun g args h=>B3 tb cl h g args){Q:Exit→Act→World→Prop}(hok:okD T nt rs l ws=true)
  (hk:FO ws l.length+1=hs.length)(hstep: ∀i ao,l[i]? =some ao→fr(i+1)=put(fr i)ao.d(vl i)∧ ∃w,ws[i]? =some w∧Wo tb cl hs(FO ws i)ao w(fr i)(vl i)){C₀:Dw}
  (k: ∀(D:Dw)(a':Act),Lb C₀ D→DQ tb D→hs.getLast?=some D.H→Bt D(fr l.length)a' nt→Q .normal a' D.w):
  ∀(fuel:Nat)(listed:Array Bool)(C:Dw)(f:Fr)(a:Act),listed.toList.count false≤fuel→St rs l ws hs fr vl listed C.H f→Lb C₀ C→DQ tb C→Bt C f a nt→wpAny P .any rs Q fuel listed a C.w:=by
 obtain⟨c1,c2,c3,c4,c5,c6,c7,c8⟩:=xS hok
 have lexf:=Xj(fun i ao h=>(hstep i ao h).1)c4
 have fin: ∀(listed:Array Bool)(C:Dw)(f:Fr)(a:Act),Region.ready .any rs listed=[]→St rs l ws hs fr vl listed C.H f→Lb C₀ C→DQ tb C→Bt C f a nt→Q .normal a C.w:=by
  intro listed C f a hr S X I F
  have all: ∀n i,i<n→i<rs.size→On listed i:=by
   intro n
   induction n with
   |zero=>intro i h;omega
   |succ n ih=>
    intro i hi hil
    refine Classical.byContradiction fun hno=> ?_
    have:i∈Region.ready .any rs listed:=(TQ S.size).2⟨hil,hno,fun e he=>ih e(by have:=c3 i hil e he;omega)(by have:=c3 i hil e he;omega)⟩
    rw[hr]at this
    cases this
  have all': ∀i,i<rs.size→On listed i:=fun i hi=>all(i+1)i(by omega)hi
  obtain⟨q1,q2⟩:=lexf l.length(Nat.le_refl _)
  refine k C a X I ?_⟨fun t=> ?_,F.size,F.defers⟩
  ·obtain⟨m,hm,hw⟩:=S.heap
   have hml:=AT hm
   have:m=FO ws l.length:=by
    refine Classical.byContradiction fun hne=> ?_
    obtain⟨j,hj,hwj,hrj⟩:=NU(ws:=ws)(n:=l.length)(k:=m)(by omega)
    have:=(hw j(by omega)hwj).1(all' j(by omega))
    omega
   rw[List.getLast?_eq_getElem?,←hm]
   congr 1
   omega
  ·have:get(fr l.length)t=get f t:=by
    by_cases hex: ∃(i:Nat)(x:AU),l[i]? =some x∧x.d=some t
    ·obtain⟨i,x,hx,hd⟩:=hex
     rw[q1 i x t(AT hx)hx hd,S.vals i x t(all' i(by have:=AT hx;omega))hx hd]
    ·rw[q2 t fun i x _ hx hd=>hex⟨i,x,hx,hd⟩,S.rest t fun i x _ hx hd=>hex⟨i,x,hx,hd⟩]
   rw[this]
   exact F.rep t
 intro fuel
 induction fuel with
 |zero=>
  intro listed C f a hc S X I F
  have hr:Region.ready .any rs listed=[]:=by
   rw[List.eq_nil_iff_forall_not_mem]
   intro i hi
   obtain⟨hil,hno,_⟩:=(TQ S.size).1 hi
   have h0:listed.toList.count false=0:=by omega
   rw[List.count_eq_zero]at h0
   apply hno
   have hil':i<listed.size:=by rw[S.size];exact hil
   unfold On
   rw[Array.getD_eq_getD_getElem?,Array.getElem?_eq_getElem hil']
   simp only[Option.getD_some]
   cases hv:listed[i]with
   |true=>rfl
   |false=>exact absurd(by rw[←hv];simp)h0
  exact⟨hr,fin listed C f a hr S X I F⟩
 |succ fuel ih=>
  intro listed C f a hc S X I F
  refine⟨fun hr=>fin listed C f a hr S X I F,fun i hi=> ?_⟩
  obtain⟨hil,hno,hall⟩:=(TQ S.size).1 hi
  have hil':i<listed.size:=by rw[S.size];exact hil
  obtain⟨o,ho⟩: ∃o,rs[i]? =some o:=⟨rs[i],Array.getElem?_eq_getElem hil⟩
  obtain⟨ao,hao⟩: ∃x,l[i]? =some x:=⟨_,List.getElem?_eq_getElem(by omega)⟩
  obtain⟨g1,g2,g3,g4⟩:=UH(c2 i ao o hao ho)
  obtain⟨hfr,w,hwi,t,hwt,hfalse,htrue⟩:=hstep i ao hao
  obtain⟨q1,q2⟩:=lexf i(by omega)
  have alike:Ff tb f(fr i)(looks ao):=by
   intro u hu
   by_cases hex: ∃(j:Nat)(x:AU),l[j]? =some x∧x.d=some u
   ·obtain⟨j,x,hx,hd⟩:=hex
    rcases c5 i j ao x u hao hx hd hu with⟨hji,hanc⟩|hlate
    ·have hon:On listed j:=JZ S.down hanc hall
     rw[q1 j x u hji hx hd,S.vals j x u hon hx hd]
    ·have hij:i≤j:=by rcases hlate with h|h<;>omega
     have hoff: ¬On listed j:=fun h=>by
      rcases hlate with⟨_,hanc⟩|rfl
      ·exact hno(JZ S.down hanc(S.down j h))
      ·exact hno h
     have one: ∀(k:Nat)(y:AU),l[k]? =some y→y.d=some u→k=j:=fun k y hy hyd=>
      Classical.byContradiction fun hne=>c4 k j y x u hy hx hne hyd hd
     rw[q2 u fun k y hk hy hyd=>by have:=one k y hy hyd;omega,S.rest u fun k y hk hy hyd=>hoff(one k y hy hyd▸hk)]
   ·rw[q2 u fun j x _ hx hd=>hex⟨j,x,hx,hd⟩,S.rest u fun j x _ hx hd=>hex⟨j,x,hx,hd⟩]
  have hwt':wanted f ao.g=some t:=by rw[bA alike.l];exact hwt
  have hwr:=Wv F g3 hwt'
  obtain⟨m,hm,hmw⟩:=S.heap
  have hcount:(listed.setIfInBounds i true).toList.count false≤fuel:=by
   have hv:listed[i]=false:=by
    cases hv:listed[i]with
    |false=>rfl
    |true=>exact absurd(by unfold On;rw[Array.getD_eq_getD_getElem?,Array.getElem?_eq_getElem hil',hv];rfl)hno
   rw[Array.toList_setIfInBounds,List.count_set(by simpa using hil')]
   have hv':listed.toList[i]'(by simpa using hil')=false:=by simpa using hv
   have hpos:0<listed.toList.count false:=List.count_pos_iff.2(by rw[←hv];simp)
   rw[hv']
   simp only[beq_self_eq_true,if_true,beq_iff_eq,Bool.true_eq_false,if_false]
   omega
  have next: ∀(H:Av),(w=none→hs[m+1]? =some H)→(w≠none→H=C.H)→St rs l ws hs fr vl(listed.setIfInBounds i true)H(put f ao.d(vl i)):=by
   intro H hn hq
   refine⟨by simp[S.size],?_,?_,?_,?_⟩
   ·intro j hj e he
    rw[TV hil']at hj ⊢
    rcases hj with rfl|hj
    ·exact .inr(hall e he)
    ·exact .inr(S.down j hj e he)
   ·cases hw:w with
    |none=>
     subst hw
     refine⟨m+1,hn rfl,fun j hj hwj=> ?_⟩
     have hmi:FO ws i=m:=by
      have h1: ¬FO ws i<m:=fun h=>hno((hmw i hil hwi).2 h)
      have h2: ¬m<FO ws i:=fun h=>by
       obtain⟨j,hj,hwj,hrj⟩:=NU h
       have:=JZ S.down(c6 i j hil(by omega)(by omega)hwi hwj hj)hall
       have:=(hmw j(by omega)hwj).1 this
       omega
      omega
     rw[TV hil',hmw j hj hwj]
     constructor
     ·rintro(rfl|h)
      ·omega
      ·omega
     ·intro h
      by_cases hji:j=i
      ·exact .inl hji
      ·right
       rcases Nat.lt_or_ge j i with h'|h'
       ·have:=We hwj h';omega
       ·have:=We hwi(show i<j by omega);omega
    |some p=>
     refine⟨m,by rw[hq(by rw[hw];simp)];exact hm,fun j hj hwj=> ?_⟩
     have hji:j≠i:=by rintro rfl;rw[hwi,hw]at hwj;cases hwj
     rw[TV hil',←hmw j hj hwj]
     exact⟨fun h=>h.resolve_left hji, .inr⟩
   ·intro j x u hj hx hd
    rw[Wj]
    rw[TV hil']at hj
    by_cases hji:j=i
    ·subst hji
     rw[hao]at hx
     obtain rfl:=Option.some.inj hx
     rw[if_pos hd]
    ·rw[if_neg(c4 j i x ao u hx hao hji hd)]
     exact S.vals j x u(hj.resolve_left hji)hx hd
   ·intro u hu
    rw[Wj,if_neg(hu i ao((TV hil').2(.inl rfl))hao)]
    exact S.rest u fun j x hj hx=>hu j x((TV hil').2(.inr hj))hx
  have hrank:w=none→FO ws i=m:=by
   rintro rfl
   have h1: ¬FO ws i<m:=fun h=>hno((hmw i hil hwi).2 h)
   have h2: ¬m<FO ws i:=fun h=>by
    obtain⟨j,hj,hwj,hrj⟩:=NU h
    have:=JZ S.down(c6 i j hil(by omega)(by omega)hwi hwj hj)hall
    have:=(hmw j(by omega)hwj).1 this
    omega
   omega
  have hrange: ∀lo hi,w=some(lo,hi)→lo≤m∧m≤hi:=by
   rintro lo hi rfl
   have hml:=AT hm
   constructor
   ·refine Nat.le_of_not_lt fun h=> ?_
    obtain⟨j,hj,hwj,hrj⟩: ∃j,j<l.length∧ws[j]? =some none∧FO ws j=m:=by
     by_cases hlt:m<FO ws l.length
     ·exact NU hlt
     ·have:=c8 i lo hi hil hwi
      rw[←c1]at this
      omega
    have:=JZ S.down((c7 i j lo hi hil(by omega)hwi hwj).1(by omega))hall
    have:=(hmw j(by omega)hwj).1 this
    omega
   ·refine Nat.le_of_not_lt fun h=> ?_
    obtain⟨j,hj,hwj,hrj⟩: ∃j,j<l.length∧ws[j]? =some none∧FO ws j=hi:=NU(by omega)
    have hon:=(hmw j(by omega)hwj).2(by omega)
    exact hno(JZ S.down((c7 i j lo hi hil(by omega)hwi hwj).2(by omega))(S.down j hon))
  unfold wpOp
  simp only[ho,hwr]
  rw[←g1]
  cases t with
  |false=>
   simp only[Bool.false_eq_true,if_false]
   obtain⟨hv,hsame⟩:=hfalse rfl
   refine ih _ C(put f ao.d(.tup []))_ hcount ?_ X I(F.put(J7 C)(fun t ht=>g2 t(g1▸ht))(x:= .tup [])⟨[],rfl,rfl⟩)
   rw[←hv]
   refine next C.H(fun hw=> ?_)fun _=>rfl
   rw[←hrank hw,←hsame hw,hrank hw]
   exact hm
  |true=>
   simp only[if_true]
   obtain⟨hW,hR⟩:=htrue rfl
   have land: ∀(u:Option Av),Bq tb cl(eval tb f)C.H ao.o=some(vl i,u)→(w=none→hs[m+1]? =some(u.getD C.H))→(w≠none→u.getD C.H=C.H)→
     o.wp P a C.w(wpAny P .any rs Q fuel(listed.setIfInBounds i true))Q:=by
    intro u hu h1 h2
    refine U8(hT _ _ g4 hcl I F hu)fun v D X' ID hH hr=> ?_
    rw[←g1]
    refine ih _ D(put f ao.d(vl i))_ hcount ?_(X.trans X')ID(F.put X'(fun t ht=>g2 t(g1▸ht))hr)
    rw[hH]
    exact next _ h1 h2
   left
   cases hw:w with
   |none=>
    obtain⟨h,u,e1,e2,e3⟩:=hW hw
    rw[hrank hw]at e1 e3
    rw[hm]at e1
    obtain rfl:=Option.some.inj e1
    exact land u(by rw[aQ alike.r];exact e2)(fun _=>e3)fun hne=>absurd hw hne
   |some p=>
    obtain⟨lo,hi⟩:=p
    obtain⟨r1,r2⟩:=hrange lo hi hw
    obtain⟨h,u,e1,e2,e3⟩:=hR lo hi hw m r1 r2
    rw[hm]at e1
    obtain rfl:=Option.some.inj e1
    exact land u(by rw[aQ alike.r];exact e2)(fun hn=>absurd(hn.symm.trans hw)(by simp))fun _=>e3
end
end Go.Proofs.YtobejhpigbllpaaGreatDoor.Am
namespace Go.Proofs.YtobejhpigbllpaaGreatDoor.Am
def cQ(l:List AU):List(Option(Nat×Nat)):=l.map fun _=>some(0,0)
def RA(T:HT→Oper→Bool)(nt:Nat):AC→Code→Bool
 | .skip, .skip=>true
 | .reg l, .region _ rs false=>Gx T nt rs l rs.toList
 | .regq l, .region _ rs true=>okD T nt rs l(cQ l)
 | .regd l ws, .region _ rs true=>okD T nt rs l ws
 | .seq x y, .seq c d=>RA T nt x c&&RA T nt y d
 | .cond x a b, .cond y c d=>Bd x y&&RA T nt a c&&RA T nt b d
 | .blk id x, .block id' c=>id==id'&&RA T nt x c
 | .loop _ x, .loop c=>RA T nt x c
 | .exit id, .exit id'=>id==id'
 | .ret, .ret=>true
 | .keep _ x,c=>RA T nt x c
 | .scope x, .scope c=>RA T nt x c
 | .skip, .label _=>true
 | .stop,_=>true
 |_,_=>false
def exOf:Ex→Exit
 | .normal=> .normal
 | .exit id=> .exit id
 | .ret=> .ret
section
variable {T:HT→Oper→Bool}{P:Program}{tb:CZ}{cl:Nat→List AV→Av→KH}{nt:Nat}
theorem cU{h:Av}: ∀(l:List AU){f f':Fr},Ih tb cl h l f=some f'→JA tb cl [h]l(cQ l)0 f=some f':=by
 intro l
 induction l with
 |nil=>intro f f' e;simpa [Ih,JA,cQ]using e
 |cons o l ih=>
  intro f f' e
  simp only[Ih]at e
  obtain⟨w,hw,e⟩:=Option.bind_eq_some_iff.1 e
  simp only[cQ,List.map_cons,JA,hw,Option.bind_some]
  cases w with
  |true=>
   simp only[if_true]at e ⊢
   obtain⟨p,hp,e⟩:=Option.bind_eq_some_iff.1 e
   split at e
   ·rename_i hsame
    simp only[List.getElem?_cons_zero,Option.bind_some,hp]
    rw[if_pos]
    ·exact ih e
    ·rw[List.all_eq_true]
     intro j hj
     rw[List.mem_range'_1]at hj
     have:j=0:=by omega
     subst this
     simp only[decide_eq_true_eq,List.getElem?_cons_zero,Option.bind_some,Option.getD_some]
     exact⟨p.2,by rw[hp],by rw[hsame]⟩
   ·cases e
  |false=>
   simp only[Bool.false_eq_true,if_false]at e ⊢
   exact ih e
theorem cO{rs:Array Oper}{l:List AU}{ws:List(Option(Nat×Nat))}{hs:List Av}{fr:Nat→Fr}{vl:Nat→AV}{H:Av}(hh:hs[0]? =some H):
  St rs l ws hs fr vl(Array.replicate rs.size false)H(fr 0):=by
 have hoff: ∀i,¬On(Array.replicate rs.size false)i:=by
  intro i h
  unfold On at h
  rw[Array.getD_eq_getD_getElem?,Array.getElem?_replicate]at h
  split at h<;>simp at h
 exact⟨by simp,fun i h=>absurd h(hoff i),⟨0,hh,fun j _ _=>⟨fun h=>absurd h(hoff j),fun h=>absurd h(Nat.not_lt_zero _)⟩⟩,fun i _ _ h=>absurd h(hoff i),fun _ _=>rfl⟩
theorem WT(hm:P.follows .mixedOrders=true)(hT: ∀ao o,T ao o=true→Dt P tb ao o)(hcl:F0 P tb fun g args h=>B3 tb cl h g args){Q:Exit→Act→World→Prop}{l:List AU}
  {ws:List(Option(Nat×Nat))}{rs:Array Oper}{id:Nat}(h:okD T nt rs l ws=true){C:Dw}{f:Fr}{a:Act}(I:DQ tb C)(F:Bt C f a nt){f':Fr}{hs:List Av}(hh:hs[0]? =some C.H)
  (e:JA tb cl hs l ws 0 f=some f')(k: ∀(D:Dw)(a':Act),Lb C D→DQ tb D→hs.getLast?=some D.H→Bt D f' a' nt→Q .normal a' D.w):(Code.region id rs true).wp P Q a C.w:=by
 obtain⟨fr,vl,h0,h1,h2,h3⟩:=sV l ws 0 f f' e
 obtain⟨X,ID⟩:=drawn I(w:={C.w with drawn:=C.w.drawn+1})⟨rfl,rfl,rfl⟩rfl
 subst h0
 subst h1
 refine wp_region_any hm ?_
 refine uS(vl:=vl)(C₀:=C)hT hcl h(by omega)(fun i ao hi=> ?_)k rs.size _⟨C.φ,C.H,{C.w with drawn:=C.w.drawn+1}⟩(fr 0)a ?_(cO hh)X ID(F.ext X)
 ·have:=h3 i ao hi
  simpa only[Nat.zero_add]using this
 ·exact Nat.le_trans List.count_le_length(by simp)
theorem tH(Ba:List Nat)(f:Fr)(t:Nat):get(keepL Ba f)t=get f t∨get(keepL Ba f)t= .junk:=by
 induction Ba with
 |nil=>exact .inr rfl
 |cons u Ba ih=>
  simp only[keepL,List.map_cons,get]
  by_cases h:u=t
  ·subst h;left;rw[if_pos rfl]
  ·rw[if_neg h];exact ih
theorem Bt.keep{C:Dw}{f:Fr}{a:Act}(F:Bt C f a nt)(Ba:List Nat):Bt C(keepL Ba f)a nt:=by
 refine⟨fun t=> ?_,F.size,F.defers⟩
 rcases tH Ba f t with h|h
 ·rw[h];exact F.rep t
 ·rw[h];trivial
theorem memH: ∀(l:Av)(o:BH),o∈l→En o≤CE l:=by
 intro l
 induction l with
 |nil=>intro o h;cases h
 |cons x l ih=>
  intro o h
  simp only[CE]
  rcases List.mem_cons.1 h with e|h
  ·subst e;omega
  ·have:=ih o h;omega
structure fD(tb:CZ)(C:Dw)(nt:Nat)(f:Fr)(h:Av)(D:Dw)(a:Act):Prop where
 ext:Lb C D
 inv:DQ tb D
 heap:D.H=h
 fr:Bt D f a nt
theorem oP(hm:P.follows .mixedOrders=true)(hT: ∀ao o,T ao o=true→Dt P tb ao o)(hcl:F0 P tb fun g args h=>B3 tb cl h g args)(hg: ∀g cs,tb.gl g=some cs→Bh cs=0):
  ∀(ac:AC)(c:Code),RA T nt ac c=true→ ∀{C:Dw}{f:Fr}{a:Act}{e:Ex}{f':Fr}{h':Av},AX tb cl ac f C.H=some(e,f',h')→DQ tb C→Bt C f a nt→
   ∀{Q:Exit→Act→World→Prop},(∀D a',fD tb C nt f' h' D a'→Q(exOf e)a' D.w)→c.wp P Q a C.w:=by
 intro ac
 induction ac with
 |skip=>
  intro c hok C f a e f' h' he I F Q k
  simp only[AX,Option.some.injEq,Prod.mk.injEq]at he
  obtain⟨rfl,rfl,rfl⟩:=he
  cases c<;>simp only[RA,Bool.false_eq_true]at hok
  ·exact wp_skip(k C a⟨J7 C,I,rfl,F⟩)
  ·exact wp_label(k C a⟨J7 C,I,rfl,F⟩)
 |ret=>
  intro c hok C f a e f' h' he I F Q k
  cases c<;>simp only[RA,Bool.false_eq_true]at hok
  simp only[AX,Option.some.injEq,Prod.mk.injEq]at he
  obtain⟨rfl,rfl,rfl⟩:=he
  exact wp_ret(k C a⟨J7 C,I,rfl,F⟩)
 |exit id=>
  intro c hok C f a e f' h' he I F Q k
  cases c<;>simp only[RA,Bool.false_eq_true,beq_iff_eq]at hok
  subst hok
  simp only[AX,Option.some.injEq,Prod.mk.injEq]at he
  obtain⟨rfl,rfl,rfl⟩:=he
  exact wp_exit(k C a⟨J7 C,I,rfl,F⟩)
 |reg l=>
  intro c hok C f a e f' h' he I F Q k
  cases c with
  |region id rs b=>
   cases b<;>simp only[RA,Bool.false_eq_true]at hok
   simp only[AX]at he
   obtain⟨p,hp,he⟩:=Option.map_eq_some_iff.1 he
   obtain⟨p1,p2⟩:=p
   simp only[Prod.mk.injEq]at he
   obtain⟨rfl,rfl,rfl⟩:=he
   exact sF hT hcl hok I F hp fun D a' X ID hH FD=>k D a'⟨X,ID,hH,FD⟩
  |_=>simp[RA]at hok
 |regq l=>
  intro c hok C f a e f' h' he I F Q k
  cases c with
  |region id rs b=>
   cases b<;>simp only[RA,Bool.false_eq_true]at hok
   simp only[AX]at he
   obtain⟨p,hp,he⟩:=Option.map_eq_some_iff.1 he
   simp only[Prod.mk.injEq]at he
   obtain⟨rfl,rfl,rfl⟩:=he
   refine WT hm hT hcl hok I F rfl(cU l hp)fun D a' X ID hH FD=>k D a'⟨X,ID,?_,FD⟩
   simpa using hH.symm
  |_=>simp[RA]at hok
 |regd l ws=>
  intro c hok C f a e f' h' he I F Q k
  cases c with
  |region id rs b=>
   cases b<;>simp only[RA,Bool.false_eq_true]at hok
   simp only[AX]at he
   obtain⟨hs,_,he⟩:=Option.bind_eq_some_iff.1 he
   obtain⟨f1,hd,he⟩:=Option.bind_eq_some_iff.1 he
   obtain⟨h1,hl,he⟩:=Option.map_eq_some_iff.1 he
   simp only[Prod.mk.injEq]at he
   obtain⟨rfl,rfl,rfl⟩:=he
   refine WT hm hT hcl hok I F rfl hd fun D a' X ID hH FD=>k D a'⟨X,ID,?_,FD⟩
   rw[hl]at hH
   exact(Option.some.inj hH).symm
  |_=>simp[RA]at hok
 |seq x y ihx ihy=>
  intro c hok C f a e f' h' he I F Q k
  cases c with
  |seq c d=>
   simp only[RA,Bool.and_eq_true]at hok
   simp only[AX]at he
   obtain⟨p,hp,he⟩:=Option.bind_eq_some_iff.1 he
   obtain⟨e1,f1,h1⟩:=p
   refine wp_seq(ihx c hok.1 hp I F fun D a' N=> ?_)
   cases e1 with
   |normal=>
    obtain⟨X,ID,hH,FD⟩:=N
    exact ihy d hok.2(by rw[hH];exact he)ID FD fun D' a'' N'=>k D' a''⟨X.trans N'.ext,N'.inv,N'.heap,N'.fr⟩
   |exit id=>
    simp only[Option.some.injEq,Prod.mk.injEq]at he
    obtain⟨rfl,rfl,rfl⟩:=he
    exact k D a' N
   |ret=>
    simp only[Option.some.injEq,Prod.mk.injEq]at he
    obtain⟨rfl,rfl,rfl⟩:=he
    exact k D a' N
  |_=>simp[RA]at hok
 |cond x y z ihy ihz=>
  intro c hok C f a e f' h' he I F Q k
  cases c with
  |cond v c d=>
   simp only[RA,Bool.and_eq_true]at hok
   have r:=AI I F hok.1.1
   simp only[AX]at he
   split at he
   ·rename_i t ht
    rw[ht]at r
    cases t with
    |true=>exact wp_cond_true r(ihy c hok.1.2(by simpa using he)I F k)
    |false=>exact wp_cond_false r(ihz d hok.2(by simpa using he)I F k)
   ·cases he
  |_=>simp[RA]at hok
 |blk id x ih=>
  intro c hok C f a e f' h' he I F Q k
  cases c with
  |block id' c=>
   simp only[RA,Bool.and_eq_true,beq_iff_eq]at hok
   obtain⟨rfl,hok⟩:=hok
   simp only[AX]at he
   obtain⟨p,hp,he⟩:=Option.map_eq_some_iff.1 he
   obtain⟨e1,f1,h1⟩:=p
   refine wp_block(ih c hok hp I F fun D a' N=> ?_)
   cases e1 with
   |normal=>
    simp only[Prod.mk.injEq]at he
    obtain⟨rfl,rfl,rfl⟩:=he
    exact k D a' N
   |ret=>
    simp only[Prod.mk.injEq]at he
    obtain⟨rfl,rfl,rfl⟩:=he
    exact k D a' N
   |exit id'=>
    simp only at he
    simp only[exOf,Exit.inBlock]
    by_cases hid:id'=id
    ·rw[if_pos hid]at he ⊢
     simp only[Prod.mk.injEq]at he
     obtain⟨rfl,rfl,rfl⟩:=he
     exact k D a' N
    ·rw[if_neg hid]at he ⊢
     simp only[Prod.mk.injEq]at he
     obtain⟨rfl,rfl,rfl⟩:=he
     exact k D a' N
  |_=>simp[RA]at hok
 |scope x ih=>
  intro c hok C f a e f' h' he I F Q k
  cases c with
  |scope c=>
   simp only[RA]at hok
   refine wp_scope_straight(ih c hok he I F fun D a' N=> ?_)
   have:=k D a' N
   cases e<;>exact this
  |_=>simp[RA]at hok
 |stop=>
  intro c hok C f a e f' h' he I F Q k
  simp[AX]at he
 |keep Ba x ih=>
  intro c hok C f a e f' h' he I F Q k
  simp only[RA]at hok
  simp only[AX]at he
  obtain⟨p,hp,he⟩:=Option.map_eq_some_iff.1 he
  obtain⟨e1,f1,h1⟩:=p
  refine ih c hok hp I F fun D a' N=> ?_
  cases e1 with
  |normal=>
   simp only[Prod.mk.injEq]at he
   obtain⟨rfl,rfl,rfl⟩:=he
   exact k D a'⟨N.ext,N.inv,N.heap,N.fr.keep Ba⟩
  |exit id=>
   simp only[Prod.mk.injEq]at he
   obtain⟨rfl,rfl,rfl⟩:=he
   exact k D a' N
  |ret=>
   simp only[Prod.mk.injEq]at he
   obtain⟨rfl,rfl,rfl⟩:=he
   exact k D a' N
 |loop Ba x ih=>
  intro c hok C f a e f' h' he I F Q k
  cases c with
  |loop c=>
   simp only[RA]at hok
   simp only[AX,lp]at he
   split at he
   ·rename_i hex
    have key: ∀(n:Nat){D:Dw}{f:Fr}{a:Act},Vz(KY Ba(AX tb cl x))n f D.H=some(e,f',h')→Lb C D→DQ tb D→Bt D f a nt→Code.rounds P c Q n a D.w:=by
     intro n
     induction n with
     |zero=>intro D f a h;simp[Vz]at h
     |succ n ihn=>
      intro D f a h X ID FD
      simp only[Vz]at h
      rw[rounds_succ]
      have rnd: ∀{e1 f1 h1},KY Ba(AX tb cl x)f D.H=some(e1,f1,h1)→ ∃f2 h2,AX tb cl x(keepL Ba f)D.H=some(e1,f2,h2)∧
        (e1= .normal→(f1,h1)=(keepL Ba f2,h2))∧(e1≠ .normal→f1=f2∧h1=h2):=by
       intro e1 f1 h1 hr
       simp only[KY]at hr
       obtain⟨⟨e2,f2,h2⟩,hp,hr⟩:=Option.map_eq_some_iff.1 hr
       cases e2<;>simp only[Prod.mk.injEq]at hr
       ·obtain⟨he1,hq⟩:=hr
        subst he1
        exact⟨f2,h2,hp,fun _=>by rw[hq.1,hq.2],fun h=>absurd rfl h⟩
       all_goals obtain⟨rfl,rfl,rfl⟩:=hr
       ·exact⟨_,_,hp,fun h=>(by cases h),fun _=>⟨rfl,rfl⟩⟩
       ·exact⟨_,_,hp,fun h=>(by cases h),fun _=>⟨rfl,rfl⟩⟩
      cases hr:KY Ba(AX tb cl x)f D.H with
      |none=>rw[hr]at h;simp at h
      |some p=>
       obtain⟨e1,f1,h1⟩:=p
       rw[hr]at h
       obtain⟨f2,h2,hx,hn,ho⟩:=rnd hr
       refine ih c hok hx ID(FD.keep Ba)fun D' a' N=> ?_
       by_cases hnorm:e1= .normal
       ·subst hnorm
        have hs:=hn rfl
        simp only[]at h
        simp only[exOf,Exit.then]
        obtain⟨X',ID',hH',FD'⟩:=N
        simp only[Prod.mk.injEq]at hs
        obtain⟨rfl,rfl⟩:=hs
        exact ihn(D:=D')(f:=keepL Ba f2)(by rw[hH'];exact h)(X.trans X')ID'(FD'.keep Ba)
       ·obtain⟨rfl,rfl⟩:=ho hnorm
        have h':some(e1,f1,h1)=some(e,f',h'):=by
         cases e1 with
         |normal=>exact absurd rfl hnorm
         |exit id=>simpa using h
         |ret=>simpa using h
        simp only[Option.some.injEq,Prod.mk.injEq]at h'
        obtain⟨rfl,rfl,rfl⟩:=h'
        have:=k D' a'⟨X.trans N.ext,N.inv,N.heap,N.fr⟩
        cases e1 with
        |normal=>exact absurd rfl hnorm
        |exit id=>exact this
        |ret=>exact this
    exact wp_loop_rounds _(key _ he(J7 C)I F)
   ·cases he
  |_=>simp[RA]at hok
end
end Go.Proofs.YtobejhpigbllpaaGreatDoor.Am
namespace Go.Proofs.YtobejhpigbllpaaGreatDoor.Am
def hY(P:Program):KX→ResultVar→Bool
 | .tmp t, .tmp u=>t==u
 | .cell ag n a, .cell b t=>a==b&&ag==EO P t&&n==P.cellsOf t&&(P.underlying t).isSome
 |_,_=>false
def P8(P:Program):List KX→List ResultVar→Bool
 |[],[]=>true
 |x::r,y::q=>hY P x y&&P8 P r q
 |_,_=>false
def Bo(T:HT→Oper→Bool)(P:Program)(fn:CM)(g:Nat):Bool:=
 match P.funcs[g]? with
 |some F=>(match F.body with
  |some c=>RA T fn.nt fn.body c
  |none=>false)&& !(F.name== "runtime.NumGoroutine")&&fn.nt==F.ntmps&&decide(fn.np≤fn.nt)&&P8 P fn.res F.results.toList
 |none=>false
section
variable {T:HT→Oper→Bool}{P:Program}{tb:CZ}{cl:Nat→List AV→Av→KH}{nt:Nat}
theorem WL{C:Dw}(I:DQ tb C){t:TypeId}(hu:(P.underlying t).isSome=true){x:AV}{y:Value}(hr:FN C x y){v:AV}(h:load C.H(EO P t)(P.cellsOf t)x=some v):
  ∃(p:Addr)(z:Value),y= .pointer(some p)∧(loadVar t p).run P C.w= .ok z C.w∧FN C v z:=by
 simp only[load]at h
 cases hp:place C.H x with
 |none=>rw[hp]at h;simp at h
 |some q=>
  obtain⟨cs,off⟩:=q
  rw[hp]at h
  simp only[Option.bind_some]at h
  split at h
  ·rename_i hle
   obtain⟨b,base,vs,e,hh,hl,hs⟩:=ZF I hr hp
   have hsub:=hh.sub off(P.cellsOf t)
   have hrl:AY C(sub cs off(P.cellsOf t))((vs.drop off).take(P.cellsOf t)):=hl.drop.take
   have hlen:((vs.drop off).take(P.cellsOf t)).length=P.cellsOf t:=by
    rw[hrl.length];simp only[sub,List.length_take,List.length_drop];omega
   obtain⟨q1,q2⟩:=Uz h(OO hs off _)hrl
   have hinfo:(P.info? t).isSome=true:=by
    obtain⟨d,hd⟩:=Option.isSome_iff_exists.1 hu
    exact Cf hd
   have hlc:=Hg(P:=P)hsub
   rw[hlen]at hlc
   cases hag:EO P t with
   |true=>
    refine⟨_, .agg((vs.drop off).take(P.cellsOf t)).toArray,e,?_,q1 hag⟩
    simp only[loadVar,Sem.run_bind,Sem.run_pure,Result.andThen_ok,EQ t C.w hu,hag,if_true,BI hinfo,hlc]
   |false=>
    obtain⟨z,hz,rz⟩:=q2 hag
    have hc:C.w.cell?⟨b,base+off,none⟩=some z:=by
     have:=hsub 0 z(by rw[hz];rfl)
     simpa using this
    refine⟨_,z,e,?_,rz⟩
    simp only[loadVar,Sem.run_bind,Result.andThen_ok,EQ t C.w hu,hag,Bool.false_eq_true,if_false,run_load,hc]
  ·cases h
theorem gU{C:Dw}(I:DQ tb C){f:Fr}{a:Act}(F:Bt C f a nt): ∀(l:List KX)(rs:List ResultVar),P8 P l rs=true→ ∀{vs:List AV},results f C.H l=some vs→
  ∃xs:List Value,(rs.mapM(m:=Sem)fun
   | .tmp t=>pure(a.tmps.getD t undef)
   | .cell b t=>do loadVar t(←asAddr(a.tmps.getD b undef))).run P C.w= .ok xs C.w∧AY C vs xs:=by
 intro l
 induction l with
 |nil=>
  intro rs h vs e
  cases rs with
  |cons r rs=>simp[P8]at h
  |nil=>
   simp only[results,Option.some.injEq]at e
   subst e
   exact⟨[],by simp,rfl⟩
 |cons x l ih=>
  intro rs h vs e
  cases rs with
  |nil=>simp[P8]at h
  |cons r rs=>
   simp only[P8,Bool.and_eq_true]at h
   obtain⟨h1,h2⟩:=h
   cases x with
   |tmp t=>
    cases r with
    |cell b t=>simp[hY]at h1
    |tmp u=>
     simp only[hY,beq_iff_eq]at h1
     subst h1
     simp only[results]at e
     obtain⟨vs',hv,rfl⟩:=Option.map_eq_some_iff.1 e
     obtain⟨xs,q1,q2⟩:=ih rs h2 hv
     refine⟨a.tmps.getD t undef::xs,?_,⟨_,_,rfl,F.rep t,q2⟩⟩
     simp only[List.mapM_cons,Sem.run_bind,Sem.run_pure,Result.andThen_ok,q1]
   |cell ag n t=>
    cases r with
    |tmp u=>simp[hY]at h1
    |cell b ty=>
     simp only[hY,Bool.and_eq_true,beq_iff_eq]at h1
     obtain⟨⟨⟨rfl,rfl⟩,rfl⟩,hu⟩:=h1
     simp only[results]at e
     obtain⟨v,hv,e⟩:=Option.bind_eq_some_iff.1 e
     obtain⟨vs',hv',rfl⟩:=Option.map_eq_some_iff.1 e
     obtain⟨xs,q1,q2⟩:=ih rs h2 hv'
     obtain⟨p,z,hp,hz,rz⟩:=WL I hu(F.rep t)hv
     refine⟨z::xs,?_,⟨_,_,rfl,rz,q2⟩⟩
     have ha:(asAddr(a.tmps.getD t undef)).run P C.w= .ok p C.w:=by rw[hp];rfl
     simp only[List.mapM_cons,Sem.run_bind,Sem.run_pure,Result.andThen_ok,ha,hz,q1]
def hJ:List Value→Value
 |[x]=>x
 |xs=> .tuple xs.toArray
theorem NX{C:Dw}: ∀{vs:List AV}{xs:List Value},AY C vs xs→FN C(Gv vs)(hJ xs)
 |[],xs,h=>by rw[show xs=[]from h];exact⟨[],rfl,rfl⟩
 |[v],xs,⟨x,q,e,h1,h2⟩=>by rw[e,show q=[]from h2];exact h1
 |v::u::vs,xs,⟨x,q,e,h1,⟨y,q',e',h2,h3⟩⟩=>by
  rw[e,e']
  exact⟨x::y::q',rfl,x,_,rfl,h1,y,_,rfl,h2,h3⟩
theorem gO{fn:Func}{C:Dw}(I:DQ tb C){f:Fr}{a:Act}(F:Bt C f a nt){l:List KX}(h:P8 P l fn.results.toList=true){vs:List AV}(e:results f C.H l=some vs):
  ∃xs,(Go.results fn a.tmps).run P C.w= .ok(hJ xs)C.w∧AY C vs xs:=by
 obtain⟨xs,h1,h2⟩:=gU I F l _ h e
 refine⟨xs,?_,h2⟩
 have hrun:(Go.results fn a.tmps).run P C.w= .ok(if h:xs.toArray.size=1 then xs.toArray[0]else .tuple xs.toArray)C.w:=by
  unfold Go.results
  rw[Array.mapM_eq_mapM_toList,Sem.run_bind,Sem.run_map]
  exact congrArg(fun r=>(Result.andThen(Result.andThen r fun a w'=> .ok a.toArray w')fun a w'=>Sem.run P(pure(if h:a.size=1 then a[0]else Value.tuple a))w'))h1
 rw[hrun]
 match xs with
 |[]=>rfl
 |[x]=>rfl
 |x::y::xs=>simp[hJ]
end
end Go.Proofs.YtobejhpigbllpaaGreatDoor.Am
namespace Go.Proofs.YtobejhpigbllpaaGreatDoor.Am
section
variable {T:HT→Oper→Bool}{P:Program}{tb:CZ}{cl:Nat→List AV→Av→KH}{nt:Nat}
theorem UI{D:Dw}(I:DQ tb D){n id:Nat}(hid:id<D.H.length)(h: ¬id<n): ¬(D.cut n).own(D.φ id).blk:=by
 rintro⟨j,hj,e⟩
 simp only[Dw.cut,List.length_take]at hj
 have:=I.inj j id(by omega)hid e
 omega
theorem jT{D:Dw}{n:Nat}{v:AV}{x:Value}(h:B9 v≤n)(r:FN D v x):FN(D.cut n)v x∧(scal v=true→scal v=true):=⟨r.cut h,fun h=>h⟩
def FrzOk(D:Dw)(n:Nat)(F:AV→Option AV):Prop:= ∀(v v':AV)(x:Value),F v=some v'→FN D v x→FN(D.cut n)v' x∧(scal v=true→scal v'=true)
theorem L5{D:Dw}{n:Nat}{F:AV→Option AV}(hF:FrzOk D n F): ∀{l l':List AV}{xs:List Value},D7 F l=some l'→AY D l xs→AY(D.cut n)l' xs∧(l.all scal=true→l'.all scal=true)∧l'.length=l.length
 |[],_,_,h,r=>by
  simp only[D7,Option.some.injEq]at h
  subst h
  exact⟨r,fun h=>h,rfl⟩
 |v::l,_,_,h,⟨x,q,e,r,rr⟩=>by
  simp only[D7]at h
  obtain⟨v',hv,h⟩:=Option.bind_eq_some_iff.1 h
  obtain⟨l',hl,rfl⟩:=Option.map_eq_some_iff.1 h
  obtain⟨h1,h2⟩:=hF _ _ _ hv r
  obtain⟨h3,h4,h5⟩:=L5 hF hl rr
  refine⟨⟨x,q,e,h1,h3⟩,fun hs=> ?_,by simp[h5]⟩
  simp only[List.all_cons,Bool.and_eq_true]at hs ⊢
  exact⟨h2 hs.1,h4 hs.2⟩
theorem Of{D:Dw}{n sz:Nat}{F:AV→Option AV}(hF:FrzOk D n F): ∀{l l':List(List AV)}{xs:List(List Value)},D7(D7 F)l=some l'→AP D l xs→(∀e∈l,e.length=sz∧e.all scal=true)→
  AP(D.cut n)l' xs∧(∀e∈l',e.length=sz∧e.all scal=true)∧l'.length=l.length
 |[],_,_,h,r,_=>by
  simp only[D7,Option.some.injEq]at h
  subst h
  exact⟨r,fun e h=>(by cases h),rfl⟩
 |v::l,_,_,h,⟨x,q,e,r,rr⟩,hs=>by
  simp only[D7]at h
  obtain⟨v',hv,h⟩:=Option.bind_eq_some_iff.1 h
  obtain⟨l',hl,rfl⟩:=Option.map_eq_some_iff.1 h
  obtain⟨h1,h2,h6⟩:=L5 hF hv r
  obtain⟨h3,h4,h5⟩:=Of hF hl rr fun e he=>hs e(List.mem_cons_of_mem _ he)
  refine⟨⟨x,q,e,h1,h3⟩,fun e he=> ?_,by simp[h5]⟩
  have h0:=hs v List.mem_cons_self
  rcases List.mem_cons.1 he with rfl|he
  ·exact⟨h6.trans h0.1,h2 h0.2⟩
  ·exact h4 e he
theorem dV{D:Dw}(I:DQ tb D){n:Nat}: ∀d,FrzOk D n(frz D.H n d)
 |0=>fun v v' x h r=>by
  simp only[frz]at h
  split at h
  ·rename_i hm
   obtain rfl:=Option.some.inj h
   exact jT hm r
  ·cases h
 |d+1=>fun v v' x h r=>by
  simp only[frz]at h
  split at h
  ·rename_i hm
   obtain rfl:=Option.some.inj h
   exact jT hm r
  ·rename_i hm
   have ih:=dV I(n:=n)d
   split at h
   ·rename_i id k lo len
    have hid: ¬id<n:=by simp only[B9]at hm;omega
    obtain⟨_,fz,sz,els,hg,hle,q⟩:=r
    simp only[hg,Option.bind_some]at h
    split at h
    ·rename_i hc
     obtain⟨hk,hlo⟩:=hc
     obtain⟨els',he,rfl⟩:=Option.map_eq_some_iff.1 h
     refine⟨?_,fun _=>rfl⟩
     obtain⟨_,off,cap,rfl,hlc,hoff,_,_⟩:=q hk
     obtain⟨tl,hg',hlab⟩:=Ip hg
     obtain⟨vss,arr,et,fr,⟨h1,_⟩,h2,h3,h4,h5,h6,h7,h8,h9⟩:=I.obj id _ hg'
     have hlens:=AP.lens(fun x hx=>(h4 x hx).1)h5
     have hlen:((els.drop lo).take len).length=len:=by simp only[List.length_take,List.length_drop];omega
     obtain⟨q1,q2,q3⟩:=Of(sz:=sz)ih he(h5.drop.take)fun e he=>h4 e(List.mem_of_mem_drop(List.mem_of_mem_take he))
     refine .inl⟨(D.φ id).blk,off,cap,(vss.drop lo).take len,by rw[q3,hlen],by rw[q3,hlen];exact hlc,I.lt id(AT hg'),UI I(AT hg')hid,?_,q2,q1⟩
     intro j v hj
     have hpos:0<len:=by
      rcases Nat.eq_zero_or_pos len with h|h
      ·subst h;simp at hj
      ·exact h
     rw[hoff hpos]
     have hh:=h7.sub(lo*sz)(len*sz)
     refine hh j v ?_
     rw[Ef(sz:=sz)_ _(fun x hx=>hlens x(List.mem_of_mem_drop hx)),E8(sz:=sz)_ _ hlens]at hj
     exact hj
    ·cases h
   ·rename_i sz id off len
    have hid: ¬id<n:=by simp only[B9]at hm;omega
    obtain⟨_,o,cap,rfl,hlc,hoff,hsz⟩:=r
    obtain⟨cs,hc,h⟩:=Option.bind_eq_some_iff.1 h
    split at h
    ·rename_i hcond
     obtain⟨els',he,rfl⟩:=Option.map_eq_some_iff.1 h
     refine⟨?_,fun _=>rfl⟩
     obtain⟨tl,hg,hlab⟩:=NA hc
     obtain⟨vs,arr,et,fr,⟨h1,_⟩,h2,h3,h4,h5,h6⟩:=I.obj id _ hg
     obtain⟨c1,c2,vss,c3,c4⟩:=Vf(C:=D)sz len(cs.drop off)(vs.drop off)D.w(D.φ id).blk off(by
      simp only[List.all_eq_true]at h3 ⊢
      exact fun x hx=>h3 x(List.mem_of_mem_drop hx))h4.drop(by
      have:=h5.sub off(vs.drop off).length
      rw[Nat.zero_add]at this
      rwa [List.take_of_length_le(Nat.le_refl _)]at this)(by simp only[List.length_drop];omega)
     obtain⟨q1,q2,q3⟩:=Of(sz:=sz)ih he c4 c2
     refine .inl⟨(D.φ id).blk,o,cap,vss,by rw[q3,c1],by rw[q3,c1];exact hlc,I.lt id(AT hg),UI I(AT hg)hid,?_,q2,q1⟩
     intro j v hj
     have hpos:0<len:=by
      rcases Nat.eq_zero_or_pos len with h|h
      ·subst h
       simp only[BR]at c4
       rw[show vss=[]from c4]at hj
       simp at hj
      ·exact h
     rw[hoff hpos]
     exact c3 j v hj
    ·cases h
   ·rename_i sz els
    obtain⟨els',he,rfl⟩:=Option.map_eq_some_iff.1 h
    refine⟨?_,fun _=>rfl⟩
    rcases r with⟨b,base,cap,vss,rfl,hlc,hlt,hown,hh,hs,hr⟩|⟨rfl,p,cap,rfl⟩
    ·obtain⟨q1,q2,q3⟩:=Of(sz:=sz)ih he hr hs
     exact .inl⟨b,base,cap,vss,by rw[q3],by rw[q3];exact hlc,hlt,Te hown,hh,q2,q1⟩
    ·simp only[D7,Option.some.injEq]at he
     subst he
     exact .inr⟨rfl,p,cap,rfl⟩
   ·rename_i cs
    obtain⟨vs,e,s,q⟩:=r
    obtain⟨cs',hc,rfl⟩:=Option.map_eq_some_iff.1 h
    obtain⟨h1,h2,_⟩:=L5 ih hc q
    exact⟨⟨vs,e,h2 s,h1⟩,fun h=>by simp[scal]at h⟩
   ·rename_i cs
    obtain⟨vs,e,q⟩:=r
    obtain⟨cs',hc,rfl⟩:=Option.map_eq_some_iff.1 h
    exact⟨⟨vs,e,(L5 ih hc q).1⟩,fun h=>by simp[scal]at h⟩
   ·cases h
theorem zO{D:Dw}(I:DQ tb D){n:Nat}{l l':List AV}{xs:List Value}(h:dW D.H n l=some l')(r:AY D l xs):AY(D.cut n)l' xs∧(l.all scal=true→l'.all scal=true):=
 ⟨(L5(dV I 12)h r).1,(L5(dV I 12)h r).2.1⟩
theorem iK{C D:Dw}(X:Lb C D)(I:DQ tb D)(hg: ∀g cs,tb.gl g=some cs→Bh cs=0){vs:List AV}{xs:List Value}(h:AY D vs xs):
  ∃D':Dw,Lb C D'∧DQ tb D'∧D'.w=D.w∧D'.H=(Xk C.H.length D.H vs).2.getD C.H∧FN D'(Xk C.H.length D.H vs).1(hJ xs):=by
 unfold Xk
 split
 ·rename_i vs' hf
  split
  ·rename_i hm
   exact⟨D.cut C.H.length,X.cut(Nat.le_refl _),I.cut hm hg,rfl,rfl,NX(zO I hf h).1⟩
  ·exact⟨D,X,I,rfl,rfl,NX h⟩
 ·exact⟨D,X,I,rfl,rfl,NX h⟩
theorem mJ{C D:Dw}(X:Lb C D)(I:DQ tb D)(hg: ∀g cs,tb.gl g=some cs→Bh cs=0){warm:Bool}{vs:List AV}{xs:List Value}(h:AY D vs xs):
  ∃D':Dw,Lb C D'∧DQ tb D'∧D'.w=D.w∧D'.H=(WY warm C.H.length D.H vs).2.getD C.H∧FN D'(WY warm C.H.length D.H vs).1(hJ xs):=by
 cases warm
 ·exact iK X I hg h
 ·exact⟨D,X,I,rfl,rfl,NX h⟩
theorem jR: ∀(l:List AV)(k t:Nat),get((l.zipIdx k).map fun p=>(p.2,p.1))t=if k≤t then l[t-k]?.getD .junk else .junk
 |[],k,t=>by simp[get]
 |v::l,k,t=>by
  simp only[List.zipIdx_cons,List.map_cons,get]
  rw[jR l(k+1)t]
  by_cases h:k=t
  ·subst h;simp
  ·rw[if_neg h]
   by_cases h1:k≤t
   ·rw[if_pos(show k+1≤t by omega),if_pos h1,show t-k=(t-(k+1))+1 by omega]
    simp
   ·rw[if_neg(by omega),if_neg h1]
theorem fr_args{C:Dw}{args:List AV}{vs:List Value}(h:AY C args vs){m:Nat}(hm:args.length≤m):
  Bt C(args.zipIdx.map fun p=>(p.2,p.1)){tmps:=vs.toArray++Array.replicate(m-vs.toArray.size)undef,defers:=[]}m:=by
 have hl:=h.length
 refine⟨fun t=> ?_,by simp;omega,rfl⟩
 rw[jR,if_pos(Nat.zero_le _),Nat.sub_zero]
 cases ht:args[t]? with
 |none=>trivial
 |some v=>
  obtain⟨x,hx,r⟩:=h.get ht
  have:t<vs.length:=AT hx
  simp only[Option.getD_some,Array.getD_eq_getD_getElem?]
  rw[Array.getElem?_append_left(by simpa using this)]
  simpa [hx]using r
theorem ZL{fn:CM}{g:Nat}(h:Bo T P fn g=true): ∃(F:Func)(c:Code),P.funcs[g]? =some F∧F.body=some c∧RA T fn.nt fn.body c=true∧(F.name== "runtime.NumGoroutine")=false∧fn.nt=F.ntmps∧fn.np≤fn.nt∧
  P8 P fn.res F.results.toList=true:=by
 unfold Bo at h
 split at h
 ·rename_i F hF
  simp only[Bool.and_eq_true,Bool.not_eq_true',beq_iff_eq,decide_eq_true_eq]at h
  obtain⟨⟨⟨⟨h1,h2⟩,h3⟩,h4⟩,h5⟩:=h
  split at h1
  ·rename_i c hc
   exact⟨F,c,hF,hc,h1,h2,h3,h4,h5⟩
  ·cases h1
 ·cases h
theorem Yg(hm:P.follows .mixedOrders=true)(hT: ∀ao o,T ao o=true→Dt P tb ao o)(hcl:F0 P tb fun g args h=>B3 tb cl h g args)(hg: ∀g cs,tb.gl g=some cs→Bh cs=0)
  {fn:CM}{g:Nat}(hok:Bo T P fn g=true){C:Dw}{args:List AV}{vs:List Value}{r:AV×Option Av}(I:DQ tb C)(hr:AY C args vs)(h:body tb cl fn args C.H=some r):
  Calls P g vs.toArray C.w(rP tb C r):=by
 obtain⟨F,c,hF,hc,h1,h2,h3,h4,h5⟩:=ZL hok
 simp only[body]at h
 split at h
 ·rename_i hnp
  obtain⟨⟨e,f,h'⟩,he,h⟩:=Option.bind_eq_some_iff.1 h
  refine calls_of_wp hF hc ?_
  rw[←h3]
  refine oP hm hT hcl hg fn.body c h1 he I(fr_args hr(by omega))fun D a' N=> ?_
  obtain⟨X,ID,hH,FD⟩:=N
  have fin: ∀us,results f h' fn.res=some us→WY fn.warm C.H.length h' us=r→ ∃v,(Go.results F a'.tmps).run P D.w= .ok v D.w∧rP tb C r(.returned v)D.w:=by
   intro us hus hl
   rw[←hH]at hus hl
   obtain⟨xs,hx,rx⟩:=gO ID FD h5 hus
   obtain⟨D',X',I',hw,hH',r'⟩:=mJ(warm:=fn.warm)X ID hg rx
   rw[hl]at hH' r'
   exact⟨_,hx,_,D',rfl,X',I',hw,hH',r'⟩
  cases e with
  |exit id=>simp at h
  |normal=>
   obtain⟨us,hus,hl⟩:=Option.map_eq_some_iff.1 h
   exact⟨FD.defers,fin us hus hl⟩
  |ret=>
   obtain⟨us,hus,hl⟩:=Option.map_eq_some_iff.1 h
   exact⟨FD.defers,fin us hus hl⟩
 ·cases h
structure Fits(T:HT→Oper→Bool)(P:Program)(tb:CZ):Prop where
 mixed:P.follows .mixedOrders=true
 ops: ∀ao o,T ao o=true→Dt P tb ao o
 prims:rM P tb
 gl: ∀g cs,tb.gl g=some cs→Bh cs=0
 fns: ∀g fn,tb.fns g=some fn→Bo T P fn g=true
theorem lA{fn:CM}{g:Nat}(hok:Bo T P fn g=true)(vs:Array Value)(w:World):(callFunc g vs).run P w= .ok(.enter g vs)w:=by
 obtain⟨F,c,hF,hc,_,h2,_⟩:=ZL hok
 have h2': ¬F.name= "runtime.NumGoroutine" :=by simpa using h2
 simp[callFunc,hF,hc,h2']
theorem Z8(ft:Fits T P tb): ∀n,F0 P tb(run tb n)
 |0=>fun g C args vs r I hr h=>by simp[run]at h
 |n+1=>fun g C args vs r I hr h=>by
  simp only[run]at h
  obtain⟨fn,hfn,h⟩:=Option.bind_eq_some_iff.1 h
  have hok:=ft.fns g fn hfn
  exact .inr⟨g,vs.toArray,lA hok _ _,Yg ft.mixed ft.ops(Pe ft.prims(Z8 ft n))ft.gl hok I hr h⟩
theorem uI(ft:Fits T P tb){g:Nat}{C:Dw}{args:List AV}{vs:List Value}{r:AV×Option Av}(I:DQ tb C)(hr:AY C args vs)(h:Ck tb g args C.H=some r):Calls P g vs.toArray C.w(rP tb C r):=by
 unfold Ck at h
 split at h
 ·generalize Classical.choose _=n at h
  cases n with
  |zero=>simp[run]at h
  |succ n=>
   simp only[run]at h
   obtain⟨fn,hfn,h⟩:=Option.bind_eq_some_iff.1 h
   exact Yg ft.mixed ft.ops(Pe ft.prims(Z8 ft n))ft.gl(ft.fns g fn hfn)I hr h
 ·cases h
end
end Go.Proofs.YtobejhpigbllpaaGreatDoor.Am
namespace Go.Proofs.YtobejhpigbllpaaGreatDoor.Am
def eJ(P:Program)(g:Nat):Option(Array Value→Sem Value):=
 match P.funcs[g]? with
 |some fn=>if !(fn.name== "runtime.NumGoroutine")&&fn.body.isNone&&(Extern.findNext fn).isNone then Extern.find fn else none
 |none=>none
def PV(h:Av):AV→Option(List UInt8)
 | .s l=>some l
 |v=>(Ez h 1 v).bind E0
def P7:List AV→Av→Option(AV×Option Av)
 |[x,y],h=>(PV h x).bind fun a=>(PV h y).map fun b=>(.i .i64(Extern.BytealgCompare.cmp⟨a.toArray⟩⟨b.toArray⟩),none)
 |_,_=>none
section
variable {P:Program}{tb:CZ}{C:Dw}
theorem cL{g:Nat}{e:Array Value→Sem Value}(he:eJ P g=some e){vs:Array Value}{v:Value}{w:World}(h:(e vs).run P w= .ok v w):(callFunc g vs).run P w= .ok(.value v)w:=by
 unfold eJ at he
 split at he
 ·rename_i fn hf
  split at he
  ·rename_i hc
   simp only[Bool.and_eq_true,Bool.not_eq_true',Option.isNone_iff_eq_none]at hc
   obtain⟨⟨h1,h2⟩,h3⟩:=hc
   have h2':fn.body.isNone=true:=by rw[h2];rfl
   simp only[callFunc,Sem.run_bind,run_program,Result.andThen_ok,hf,h1,Bool.false_eq_true,if_false,h2',if_true,run_mark,h3,he,h,Sem.run_pure]
  ·cases he
 ·cases he
theorem uO{e:List AV}{r:List(List AV)}{l:List UInt8}(h:E0(e::r)=some l): ∃n q,e=[.i .u8 n]∧E0 r=some q∧l=UInt8.ofNat n.toNat::q:=by
 unfold E0 at h
 split at h
 ·rename_i he;cases he
 ·rename_i n r' he
  cases he
  obtain⟨q,hq,rfl⟩:=Option.map_eq_some_iff.1 h
  exact⟨n,q,rfl,hq,rfl⟩
 ·cases h
theorem vX(w:World)(b:Nat): ∀(els:List(List AV))(vss:List(List Value))(l:List UInt8)(o:Nat)(acc:ByteArray),AP C els vss→E0 els=some l→DK w b o vss.flatten→
  (Extern.Bytes.loadBytes⟨b,o,none⟩els.length acc).run P w= .ok⟨acc.data++l.toArray⟩w
 |[],_,l,o,acc,_,h,_=>by
  simp only[E0,Option.some.injEq]at h
  subst h
  simp[Extern.Bytes.loadBytes]
 |e::els,vss,l,o,acc,⟨v,q,e1,r1,r2⟩,h,hh=>by
  subst e1
  obtain⟨n,l',rfl,hl,rfl⟩:=uO h
  obtain⟨u,us,e2,ru,e3⟩:=r1
  have e3':us=[]:=e3
  have ru':u= .int .u8 n:=ru
  subst e3';subst e2;subst ru'
  have h0:w.cell?⟨b,o,none⟩=some(.int .u8 n):=by
   have:=hh 0(.int .u8 n)(by simp)
   simpa using this
  have hn:(⟨b,o,none⟩:Addr).add 1=⟨b,o+1,none⟩:=rfl
  have ih:=vX w b els q l'(o+1)(acc.push n.toNat.toUInt8)r2 hl(fun j v hj=>by
   have:=hh(j+1)v(by simpa using hj)
   rw[show o+1+j=o+(j+1)by omega]
   exact this)
  simp only[List.length_cons,Extern.Bytes.loadBytes,Sem.run_bind,run_load,h0,Result.andThen_ok,hn,ih]
  congr 1
  apply ByteArray.ext
  simp[ByteArray.push,Nat.toUInt8]
theorem TO(I:DQ tb C){x:AV}{v:Value}{l:List UInt8}(r:FN C x v)(h:PV C.H x=some l):(Extern.Bytes.bytesOf v).run P C.w= .ok⟨l.toArray⟩C.w:=by
 have slc:(Ez C.H 1 x).bind E0=some l→(Extern.Bytes.bytesOf v).run P C.w= .ok⟨l.toArray⟩C.w:=by
  intro h
  obtain⟨els,he,hl⟩:=Option.bind_eq_some_iff.1 h
  rcases eL I(by omega)r he with⟨rfl,e⟩|⟨q,cap,vss,e,hlc,hh,hs,hr⟩
  ·subst e
   simp only[E0,Option.some.injEq]at hl
   subst hl
   rfl
  ·subst e
   by_cases hne:els=[]
   ·subst hne
    simp only[E0,Option.some.injEq]at hl
    subst hl
    rfl
   ·obtain⟨b,base,rfl,hh2⟩:=hh hne
    have:=vX(P:=P)(C:=C)C.w b els vss l base .empty hr hl hh2
    simp only[Extern.Bytes.bytesOf,this]
    congr 1
    apply ByteArray.ext
    show(#[]:Array UInt8)++l.toArray=l.toArray
    simp
 cases x<;>simp only[PV]at h<;>try exact slc h
 obtain rfl:=Option.some.inj h
 have e:v= .string⟨_⟩:=r
 subst e
 rfl
theorem cR{g:Nat}(he:eJ P g=some Extern.BytealgCompare.compare):F0 P tb fun g' args h=>if g'=g then P7 args h else none:=by
 intro g' D args vs r I hr h
 dsimp only at h
 split at h
 ·rename_i hg
  subst hg
  unfold P7 at h
  split at h
  ·rename_i x y h'
   obtain⟨v,vs',e1,r1,v2,vs2,e2,r2,e3⟩:=hr
   have e3':vs2=[]:=e3
   subst e3';subst e2;subst e1
   obtain⟨a,ha,h⟩:=Option.bind_eq_some_iff.1 h
   obtain⟨b,hb,rfl⟩:=Option.map_eq_some_iff.1 h
   refine .inl(A0 I(v:= .int .i64(Extern.BytealgCompare.cmp⟨a.toArray⟩⟨b.toArray⟩))(cL he ?_)rfl)
   change Sem.run P(do pure(goInt(Extern.BytealgCompare.cmp(←Extern.Bytes.bytesOf v)(←Extern.Bytes.bytesOf v2))))D.w=_
   simp only[Sem.run_bind,TO I r1 ha,TO I r2 hb,Result.andThen_ok,Sem.run_pure,goInt]
  ·cases h
 ·cases h
end
end Go.Proofs.YtobejhpigbllpaaGreatDoor.Am
namespace Go.Proofs.YtobejhpigbllpaaGreatDoor.Am
def N5(l:List UInt8)(c:UInt8):Int:=match l.findIdx?(fun x=>x==c)with
 |some i=>(i:Int)
 |none=> -1
def Aa8:AV→Option UInt8
 | .i .u8 n=>some(UInt8.ofNat n.toNat)
 |_=>none
def hQ(f:List UInt8→UInt8→Int):List AV→Av→Option(AV×Option Av)
 |[x,y],h=>(Aa8 y).bind fun c=>(PV h x).map fun a=>(.i .i64(f a c),none)
 |_,_=>none
def Xb:List AV→Av→Option(AV×Option Av):=hQ N5
theorem nY{l:List UInt8}{c:UInt8}:((List.range l.length).find? fun i=>l.toArray[i]! ==c)=l.findIdx?(fun x=>x==c):=by
 have key: ∀(m:List UInt8)(k:Nat),k+m.length=l.length→(∀i,m[i]? =l[k+i]?)→((List.range' k m.length).find? fun i=>l.toArray[i]! ==c)=(m.findIdx?(fun x=>x==c)).map(k+ ·):=by
  intro m
  induction m with
  |nil=>intro k _ _;rfl
  |cons x m ih=>
   intro k hk he
   have h0:l.toArray[k]! =x:=by
    have:=he 0
    simp only[List.getElem?_cons_zero,Nat.add_zero]at this
    simp[←this]
   rw[List.length_cons,List.range'_succ,List.find?_cons,h0,List.findIdx?_cons]
   cases hx:x==c with
   |true=>simp
   |false=>
    simp only[Bool.false_eq_true,if_false]
    rw[ih(k+1)(by simp at hk;omega)(fun i=>by have:=he(i+1);simp only[List.getElem?_cons_succ]at this;rw[this];congr 1;omega)]
    cases m.findIdx?(fun x=>x==c)with
    |none=>rfl
    |some i=>simp;omega
 have:=key l 0(by simp)(fun i=>by simp)
 rw[List.range_eq_range',this]
 cases l.findIdx?(fun x=>x==c)<;>simp
theorem vY{l:List UInt8}{c:UInt8}:(match(List.range(⟨l.toArray⟩:ByteArray).size).find? fun i=>(⟨l.toArray⟩:ByteArray)[i]! ==c with
  |some i=>goInt i
  |none=>goInt(-1))= .int .i64(N5 l c):=by
 have h:(List.range(⟨l.toArray⟩:ByteArray).size).find?(fun i=>(⟨l.toArray⟩:ByteArray)[i]! ==c)=l.findIdx?(fun x=>x==c):=by
  rw[←nY]
  congr 1
  funext i
  congr 1
  by_cases hi:i<l.length
  ·rw[getElem!_pos _ _(by simpa [ByteArray.size]using hi),getElem!_pos _ _(by simpa using hi)];rfl
  ·rw[getElem!_neg _ _(by simpa [ByteArray.size]using hi),getElem!_neg _ _(by simpa using hi)]
 rw[h]
 unfold N5
 cases l.findIdx?(fun x=>x==c)<;>rfl
section
variable {P:Program}{tb:CZ}
theorem sP{g:Nat}{f:List UInt8→UInt8→Int}{e:Array Value→Sem Value}(he:eJ P g=some e)
  (hf: ∀(v:Value)(n:Int)(l:List UInt8)(w:World),(Extern.Bytes.bytesOf v).run P w= .ok⟨l.toArray⟩w→(e #[v, .int .u8 n]).run P w= .ok(.int .i64(f l(UInt8.ofNat n.toNat)))w):F0 P tb fun g' args h=>if g'=g then hQ f args h else none:=by
 intro g' D args vs r I hr h
 dsimp only at h
 split at h
 ·rename_i hg
  subst hg
  unfold hQ at h
  split at h
  ·rename_i hh x y
   obtain⟨v,vs',e1,r1,v2,vs2,e2,r2,e3⟩:=hr
   have e3':vs2=[]:=e3
   subst e3';subst e2;subst e1
   obtain⟨c,hc,h⟩:=Option.bind_eq_some_iff.1 h
   obtain⟨a,ha,rfl⟩:=Option.map_eq_some_iff.1 h
   unfold Aa8 at hc
   cases y with
   |i k n=>
    have r2':v2= .int k n:=r2
    subst r2'
    cases k<;>simp only[reduceCtorEq,Option.some.injEq]at hc
    subst hc
    exact .inl(A0 I(v:= .int .i64(f a(UInt8.ofNat n.toNat)))(cL he(hf v n a D.w(TO(P:=P)I r1 ha)))rfl)
   |_=>cases hc
  ·cases h
 ·cases h
theorem Xa{g:Nat}(he:eJ P g=some Extern.BytealgIndexByte.indexByte):F0 P tb fun g' args h=>if g'=g then Xb args h else none:=
 sP he fun v n l w h=>by
  change Sem.run P(do
   let b←Extern.Bytes.bytesOf v
   let c←Extern.Bytes.asByte(.int .u8 n)
   match(List.range b.size).find? fun i=>b[i]! ==c with
   |some i=>pure(goInt i)
   |none=>pure(goInt(-1)))w=_
  simp only[Sem.run_bind,h,Result.andThen_ok,Extern.Bytes.asByte,Sem.run_pure]
  have:=vY(l:=l)(c:=UInt8.ofNat n.toNat)
  have hc:n.toNat.toUInt8=UInt8.ofNat n.toNat:=rfl
  rw[hc]
  split<;>rename_i hx<;>rw[hx]at this<;>simp only[]at this<;>rw[←this]<;>rfl
end
def OU:List AV→Av→Option(AV×Option Av)
 |[x],_=>some(x,none)
 |_,_=>none
theorem sN{P:Program}{tb:CZ}{g:Nat}(he:eJ P g=some Extern.AbiNoEscape.same):F0 P tb fun g' args h=>if g'=g then OU args h else none:=by
 intro g' D args vs r I hr h
 dsimp only at h
 split at h
 ·rename_i hg
  subst hg
  unfold OU at h
  split at h
  ·cases h
   obtain⟨v,vs',e1,r1,e3⟩:=hr
   have e3':vs'=[]:=e3
   subst e3';subst e1
   exact .inl(A0 I(v:=v)(cL he rfl)r1)
  ·cases h
 ·cases h
end Go.Proofs.YtobejhpigbllpaaGreatDoor.Am
namespace Go.Proofs.YtobejhpigbllpaaGreatDoor.Am
section
variable {tb:CZ}{Γ:Cx}{a b:AO}
inductive fG(tb:CZ)(Γ:Cx):(As:List T)→List AO→BU As→Prop where
 |nil:fG tb Γ [] []()
 |one{a:AO}{t:T}{x:t.α}(h:CA tb Γ a(.val t x)):fG tb Γ [t] [a]x
 |cons{a:AO}{t u:T}{x:t.α}{As:List T}{l:List AO}{y:BU(u::As)}(h:CA tb Γ a(.val t x))(k:fG tb Γ(u::As)l y):fG tb Γ(t::u::As)(a::l)(x,y)
theorem fG.spec{E:Pr}{rv:Nat→AV}{fp:Fp}{f:Fr}{H:Av}(R:Bp E Γ rv fp f H): ∀{As:List T}{l:List AO}{x:BU As},fG tb Γ As l x→Vj(Pf E Γ.ss fp H)H As(l.map(eval tb f))x
 |_,_,_, .nil=>rfl
 |_,_,_, .one h=>⟨_,rfl,h E rv fp f H R⟩
 |_,_,_, .cons h k=>⟨_,_,rfl,h E rv fp f H R,k.spec R⟩
def rS:(Rs:List T)→BU Rs→List(Σ t:T,t.α)
 |[],_=>[]
 |[a],x=>[⟨a,x⟩]
 |a::b::r,x=>⟨a,x.1⟩::rS(b::r)x.2
theorem fS{P:Nat→Prop}{H:Av}: ∀{Rs:List T}{vs:List AV}{x:BU Rs},Vj P H Rs vs x→VW P H vs(rS Rs x)
 |[],_,_,h=>by rw[show _=[]from h];trivial
 |[a],_,_,⟨v,e,h⟩=>by rw[e];exact⟨h,trivial⟩
 |a::b::r,_,_,⟨v,q,e,h,g⟩=>by rw[e];exact⟨h,fS g⟩
def wQ:(Rs:List T)→BU Rs→AL
 |[a],x=> .val a x
 |Rs,x=> .tup(rS Rs x)
theorem Xc{rv:Nat→AV}{ss:Ss}{P:Nat→Prop}{H:Av}{v:AV}: ∀{Rs:List T}{x:BU Rs},OutR P H Rs v x→FR rv ss P H(wQ Rs x)v
 |[],_,⟨vs,e,h⟩=>by rw[e,show vs=[]from h];exact⟨[],rfl,trivial⟩
 |[a],_,⟨vs,e,v,e',h⟩=>by rw[e,e'];exact h
 |a::b::r,_,⟨vs,e,h⟩=>by
  have hh:=h
  obtain⟨v1,q,e1,h1,h2⟩:=h
  have: ∃v2 q2,q=v2::q2:=by
   cases r with
   |nil=>obtain⟨v2,e2,_⟩:=h2;exact⟨v2,[],e2⟩
   |cons c r=>obtain⟨v2,q2,e2,_⟩:=h2;exact⟨v2,q2,e2⟩
  obtain⟨v2,q2,e2⟩:=this
  refine⟨vs,?_,fS hh⟩
  rw[e,e1,e2];rfl
theorem zJ{g:Nat}{As Rs:List T}{F:BU As→Option(BU Rs)}{l:List AO}{x:BU As}(sp:AH tb g As Rs F)(hx:fG tb Γ As l x):F1 tb Γ(.call g l)(F x)fun r=>wQ Rs r:=by
 intro E rv fp f H R r hr
 obtain⟨v,u,h1,h2,h3⟩:=(sp(Pf E Γ.ss fp H)H _ x R.ltP R.wf(hx.spec R)r hr).call
 exact⟨v,u,by simp only[Bq];exact h1,h2,Xc h3⟩
theorem A2{g:Nat}{As:List T}{t:T}{F:BU As→Option(BU [t])}{l:List AO}{x:BU As}(sp:AH tb g As [t]F)(hx:fG tb Γ As l x):F1 tb Γ(.call g l)(F x)fun r:t.α=> .val t r:=zJ sp hx
theorem Iq{g:Nat}{As:List T}{t u:T}{Rs:List T}{F:BU As→Option(BU(t::u::Rs))}{l:List AO}{x:BU As}(sp:AH tb g As(t::u::Rs)F)(hx:fG tb Γ As l x):F1 tb Γ(.call g l)(F x)fun r=> .tup(rS(t::u::Rs)r):=zJ sp hx
theorem Cl{l:List(Σ t:T,t.α)}{i:Nat}{t:T}{x:t.α}(ha:CA tb Γ a(.tup l))(h:l[i]? =some⟨t,x⟩):F1 tb Γ(.ext a i)(some())fun _=> .val t x:=by
 rintro E rv fp f H R _⟨⟩
 obtain⟨vs,e,hv⟩:=ha E rv fp f H R
 have: ∀{vs:List AV}{l:List(Σ t:T,t.α)}{i:Nat}{p: Σ t:T,t.α},VW(Pf E Γ.ss fp H)H vs l→l[i]? =some p→ ∃v,vs[i]? =some v∧p.1.V(Pf E Γ.ss fp H)H v p.2:=by
  intro vs
  induction vs with
  |nil=>intro l i p h e;cases l with|nil=>simp at e|cons=>exact h.elim
  |cons v vs ih=>
   intro l i p h e
   cases l with
   |nil=>exact h.elim
   |cons q l=>
    cases i with
    |zero=>simp only[List.getElem?_cons_zero,Option.some.injEq]at e;subst e;exact⟨v,rfl,h.1⟩
    |succ i=>simp only[List.getElem?_cons_succ]at e;obtain⟨w,h1,h2⟩:=ih h.2 e;exact⟨w,by simpa using h1,h2⟩
 obtain⟨v,h1,h2⟩:=this hv h
 exact⟨v,none,by simp only[Bq,e,h1,val,Option.map_some],rfl,h2⟩
end
structure CW(t:T)(l:List CK)where
 d:(x y:t.α)→Decidable(x=y)
 h: ∀{P Q:Nat→Prop}{H G:Av}{c c':List AV}{x y:t.α},t.R P H c x→t.R Q G c' y→LA l c c'=some(@decide(x=y)(d x y))
theorem qS{l m:List CK}: ∀{c d c' d':List AV}{p q:Bool},LA l c c'=some p→LA m d d'=some q→LA(l++m)(c++d)(c'++d')=some(p&&q):=by
 induction l with
 |nil=>
  intro c d c' d' p q h g
  match c,c',h with
  |[],[],h=>simp only[LA,Option.some.injEq]at h;subst h;simpa using g
 |cons k l ih=>
  intro c d c' d' p q h g
  match c,c',h with
  |[],[],h=>simp[LA]at h
  |[],_::_,h=>simp[LA]at h
  |_::_,[],h=>simp[LA]at h
  |x::c,y::c',h=>
   simp only[LA]at h
   obtain⟨e,he,h⟩:=Option.bind_eq_some_iff.1 h
   obtain⟨e',he',rfl⟩:=Option.map_eq_some_iff.1 h
   simp only[List.cons_append,LA,he,Option.bind_some,ih he' g,Option.map_some,Bool.and_assoc]
theorem eM{p q:Prop}{d:Decidable p}{e:Decidable q}(h:p↔q): @decide p d= @decide q e:=by
 rw[Bool.eq_iff_iff];simp only[decide_eq_true_eq];exact h
theorem dec_of{p:Prop}{d:Decidable p}{q:Bool}(h:q=true↔p):q= @decide p d:=by
 rw[Bool.eq_iff_iff];simp only[decide_eq_true_eq];exact h
def Wq{α:Type}{c:α→AV}{z:α}{hs: ∀x,scal(c x)=true}{hm: ∀x,B9(c x)=0}(k:CK)(d:(x y:α)→Decidable(x=y))(h: ∀x y,uF k(c x)(c y)=some(@decide(x=y)(d x y))):CW(Tx α c z hs hm) [k]:=
 ⟨d,fun{P Q H G c' d' x y}h1 h2=>by
  rw[show c'=_ from h1,show d'=_ from h2]
  show(uF k(c x)(c y)).bind(fun a=>(some true).map fun b=>a&&b)=_
  rw[h x y]
  simp only[Option.bind_some,Option.map_some,Bool.and_true]
  rfl⟩
def CW.b:CW T.b [.b]:=Wq .b(fun x y=>inferInstance)fun x y=>by cases x<;>cases y<;>rfl
def CW.int(k:IntKind):CW(T.int k) [.i k]:=Wq(.i k)(fun x y=>inferInstance)fun x y=>by simp only[uF,and_self,if_true];rfl
theorem zU{x y:Nat}:((x:Int)==(y:Int))=decide(x=y):=by
 rw[Bool.eq_iff_iff];simp only[beq_iff_eq,decide_eq_true_eq];omega
def CW.u8:CW T.u8 [.i .u8]:=Wq(.i .u8)(fun x y=>inferInstance)fun x y=>by
 simp only[uF,and_self,if_true,zU];congr 1;exact eM UInt8.toNat_inj
def CW.u64:CW T.u64 [.i .u64]:=Wq(.i .u64)(fun x y=>inferInstance)fun x y=>by
 simp only[uF,and_self,if_true,zU];congr 1;exact eM UInt64.toNat_inj
def Kc{s t:T}{l m:List CK}(p:CW s l)(q:CW t m):CW(CH s t)(l++m):=
 ⟨fun x y=> @decidable_of_iff _(x.1=y.1∧x.2=y.2)⟨fun h=>Prod.ext h.1 h.2,fun h=>by rw[h];exact⟨rfl,rfl⟩⟩(have:=p.d x.1 y.1;have:=q.d x.2 y.2;inferInstance),fun{P Q H G c c' x y}⟨c1,d1,e1,h1,g1⟩⟨c2,d2,e2,h2,g2⟩=>by
  rw[e1,e2,qS(p.h h1 h2)(q.h g1 g2)]
  congr 1
  rw[Bool.eq_iff_iff]
  simp only[Bool.and_eq_true,decide_eq_true_eq]
  exact⟨fun h=>Prod.ext h.1 h.2,fun h=>by rw[h];exact⟨rfl,rfl⟩⟩⟩
def T1{t:T}{l:List CK}{β:Type}{f:β→t.α}{g:t.α→β}{hfg: ∀y,f(g y)=y}(p:CW t l)(d:(x y:β)→Decidable(x=y))(hi: ∀x y,f x=f y→x=y):CW(Pg t β f g hfg)l:=
 ⟨d,fun{P Q H G c c' x y}h1 h2=>by
  have:=p.h(x:=f x)(y:=f y)h1 h2
  rw[this]
  congr 1
  exact eM⟨hi x y,fun h=>by rw[h]⟩⟩
def repK(l:List CK):Nat→List CK
 |0=>[]
 |n+1=>l++repK l n
theorem CW.all{t:T}{l:List CK}(p:CW t l){P Q:Nat→Prop}{H G:Av}: ∀{c c':List(List AV)}{x y:List t.α},x.length=y.length→CJ t P H c x→CJ t Q G c' y→ ∃q,LA(repK l x.length)c.flatten c'.flatten=some q∧(q=true↔x=y):=by
 intro c
 induction c with
 |nil=>
  intro c' x y hl h1 h2
  match x,h1 with
  |[],_=>
   match c',y,h2,hl with
   |[],[],_,_=>exact⟨true,rfl,by simp⟩
   |_::_,_::_,_,hl=>simp at hl
 |cons a c ih=>
  intro c' x y hl h1 h2
  match x,h1 with
  |u::x,h1=>
   match c',y,h2 with
   |[],[],_=>simp at hl
   |a'::c',v::y,h2=>
    obtain⟨q,e,hq⟩:=ih(by simpa using hl)h1.2 h2.2
    refine⟨_,by rw[List.length_cons,repK,List.flatten_cons,List.flatten_cons];exact qS(p.h h1.1 h2.1)e,?_⟩
    simp only[Bool.and_eq_true,decide_eq_true_eq,hq,List.cons.injEq]
def Hy{t:T}{l:List CK}(n:Nat)(p:CW t l):CW(Ay n t)(repK l n):=
 ⟨fun(x y:Ar t.α n)=> @decidable_of_iff _(x.l=y.l)⟨fun h=>Ar.ext h,fun h=>by rw[h]⟩(have:DecidableEq t.α:=p.d;inferInstance),fun{P Q H G c c' x y}⟨cs,e,h⟩⟨ds,e',h'⟩=>by
  obtain⟨q,hq,hi⟩:=p.all(x.len.trans y.len.symm)h h'
  rw[x.len]at hq
  rw[e,e',hq]
  congr 1
  exact dec_of(hi.trans⟨fun h=>Ar.ext h,fun h=>by rw[h]⟩)⟩
section
variable {tb:CZ}{Γ:Cx}{a b:AO}
theorem QK{t:T}{l l':List CK}{x y:t.α}{neg:Bool}(p:CW t l)(ht:t.agg=true)(hl:l'=l)(ha:CA tb Γ a(.val t x))(hb:CA tb Γ b(.val t y)):F1 tb Γ(.eq neg(.agg l')a b)(some(if neg then !(@decide(x=y)(p.d x y))else @decide(x=y)(p.d x y)))fun z=> .val T.b z:=by
 rintro E rv fp f H R z⟨⟩
 subst hl
 rcases ha E rv fp f H R with⟨_,c,e,r⟩|⟨e,_⟩
 ·rcases hb E rv fp f H R with⟨_,c',e',r'⟩|⟨e',_⟩
  ·exact⟨_,none,by simp only[Bq,e,e',XL,p.h r r',Option.map_some,val],rfl,Gg.2 rfl⟩
  ·rw[ht]at e';cases e'
 ·rw[ht]at e;cases e
theorem h_eqb{x y:Bool}{neg:Bool}(ha:CA tb Γ a(.val T.b x))(hb:CA tb Γ b(.val T.b y)):F1 tb Γ(.eq neg(.one .b)a b)(some(if neg then !decide(x=y)else decide(x=y)))fun z=> .val T.b z:=by
 rintro E rv fp f H R z⟨⟩
 have h:uF .b(.b x)(.b y)=some(decide(x=y)):=by cases x<;>cases y<;>rfl
 exact⟨_,none,by simp only[Bq,Gg.1(ha E rv fp f H R),Gg.1(hb E rv fp f H R),XL,h,Option.map_some,val],rfl,Gg.2 rfl⟩
theorem Io{s t:T}{x:s.α}{y:t.α}{n j o o' m k N:Nat}{ps:List(Nat×AL)}(F:AM s(Ay n t)o')(hk:k=t.sz)(ha:CA tb Γ a(.cp j(o+m*t.sz)))(hb:CA tb Γ b(.val t y))(hj:AG Γ.ss j=some(.cells ps))(hp:Js ps o=some(N, .val s x,o')):
  Wp tb Γ none(.st k a b)(if m<n then some(F.put x((F.get x).set m y))else none)fun x'=>Γ.setS j(.cells(Vx ps o(.val s x'))):=by
 intro E rv fp f H R x' hx'
 split at hx'
 ·rename_i hlt
  cases hx'
  obtain⟨l,id,e,hv⟩:=ha E rv fp f H R
  obtain⟨cs,h0,h2,h3⟩:=Gc R hj e
  obtain⟨b',c,e0,e1,e2,e3,e4,e5,e6⟩:=FH h3 hp
  let G:=J6 F(AM.at n t m hlt)
  have hle:=G.le
  have hl:=s.len e4
  have hy:=T.V.cells(hb E rv fp f H R)
  have hyl:=t.len hy
  have hput:=G.putR e4 hy
  have hpr:=e6(o'+m*t.sz)(cellsOf(eval tb f b))(.val s(G.put x y))(by omega)hput
  rw[show b'+(o'+m*t.sz)=o+m*t.sz by omega]at hpr
  have hmen:=PR.men R.ltP R.rvlt h3
  have hym:=t.men hy R.ltP
  subst hk
  have hlt':=(R.fplt j id l((h0 id).2 rfl)).1
  obtain⟨rv',fp',_,_,R'⟩:=R.set(j:=j)(S:= .cells(Vx ps o(.val s(G.put x y))))(v:=rv j)(o:= .cells(Eo H id)(By cs(o+m*t.sz)(cellsOf(eval tb f b))))(by rw[hj];rfl)l h0(by simp only[En];exact NZ hmen hym)rfl(R.rvlt j l)(.inl rfl)(R.scal j l)fun rv' fp' e1 e2 hP hs=>
   ⟨id,_,by rw[e1,e],e2,by simp[BZ,hlt'],PR.mono hP(by simp)(fun p _=>hs p.2(.inl rfl))hpr⟩
  refine⟨.junk,some(H.set id(BH.cells(Eo H id)(By cs(o+m*t.sz)(cellsOf(eval tb f b))))),?_,rv',fp',R'⟩
  simp only[Bq,hv,store,h2,Option.bind_some]
  rw[if_pos⟨hyl,by omega⟩]
  rfl
 ·cases hx'
theorem GY{s t:T}{x:s.α}{n j o o' N m:Nat}{ag:Bool}{ps:List(Nat×AL)}(h:BD Γ.ts n=some(.cp j o))(hj:AG Γ.ss j=some(.cells ps))(hp:Js ps o=some(N, .val s x,o'))(F:AM s t o')(hag:ag=t.agg)(hm:m=t.sz):ResF Γ(.cell ag m n)t(F.get x):=by
 intro E rv fp f H R r vs hr
 obtain⟨v,u,h1,_,h3⟩:=A3(tb:=⟨fun _=>none,fun _=>none,fun _=>none⟩)(Ae h)hj hp F hag hm E rv fp f H R()rfl
 refine⟨v,?_,h3⟩
 simp only[Bq,eval,val]at h1
 obtain⟨w,hw,e⟩:=Option.map_eq_some_iff.1 h1
 cases e
 simp only[results,hw,Option.bind_some,hr,Option.map_some]
theorem rN{t:T}{zero:List(List AV)}{d t0 sz n:Nat}{ps:List(Nat×AO)}{l:List t.α}(j:Nat)(hs:sz=t.sz)(hz:zero=List.replicate n t.zc)(h:pE tb Γ t ps(List.replicate n t.z)l)(hj:AG Γ.ss j=none):
  Wp tb Γ(some d)(.bls t0 sz zero ps)(some l)fun l=>⟨(d, .own j)::Γ.ts,(j, .row t(.mk l))::Γ.ss⟩:=by
 intro E rv fp f H R l' hl'
 cases hl'
 subst hz hs
 obtain⟨ds,h1,h2⟩:=h.spec R(CJ.rep(t.hz _ _)n)
 have hm:=h2.men R.ltP
 obtain⟨rv',fp',g1,g2,g3⟩:=R.more(j:=j)(S:= .row t(.mk l))(v:= .orow H.length ds.length 0 ds.length)(o:= .row(some t0)false t.sz ds)(H7 hj)(by simp only[En];omega)rfl(by simp[B9])rfl fun rv' fp' e1 e2 hP hs=>
  ⟨_,ds,e1,e2,by simp[rowAt],h2.mono hP⟩
 exact⟨.orow H.length ds.length 0 ds.length,some(H++[BH.row(some t0)false t.sz ds]),by simp only[Bq,h1,Option.map_some],rv',fp',g3.push(φ:= .own j)⟨g2,g1.symm⟩⟩
end
def mY{α:Type}(n:Nat):List(Nat×α)→Option α
 |[]=>none
 |(k,v)::r=>if Nat.beq n k then some v else mY n r
theorem PF{α:Type}{n:Nat}{v:α}: ∀{l:List(Nat×α)},mY n l=some v→(n,v)∈l
 |[],h=>by simp[mY]at h
 |(k,u)::r,h=>by
  simp only[mY]at h
  split at h
  ·rename_i e
   obtain rfl:=Option.some.inj h
   obtain rfl:=Nat.eq_of_beq_eq_true e
   exact List.mem_cons_self
  ·exact List.mem_cons_of_mem _(PF h)
theorem oZ{tb:CZ}{g:Nat}{f:List UInt8→UInt8→Int}(hp:tb.prim g=some(hQ f)):AH tb g [Ax,T.u8] [T.int .i64]fun a=>some(f a.1 a.2):=by
 rintro P h args⟨x,y⟩_ _⟨v,q,rfl,h1,w,rfl,h2⟩r hr
 cases hr
 refine⟨_,none,?_,rfl,[.i .i64(f x y)],rfl,_,rfl,Ca.2 rfl⟩
 have hy: ∀z:UInt8,UInt8.ofNat((z.toNat:Int)).toNat=z:=fun z=>by simp
 rw[EC.1 h1,U4.1 h2]
 simp only[B3,hp,hQ,Aa8,PV,Option.bind_some]
 show some(AV.i .i64(f x(UInt8.ofNat((UInt8.toNat y:Nat):Int).toNat)),none)=_
 exact congrArg(fun c:UInt8=>(some(AV.i .i64(f(show AN from x)c),(none:Option Av))))(hy(show UInt8 from y))
end Go.Proofs.YtobejhpigbllpaaGreatDoor.Am
namespace Go.Proofs.YtobejhpigbllpaaGreatDoor.Am
def isPt:AV→Bool
 | .ptr _ _=>true
 | .pe _ _ _ _=>true
 |_=>false
def RefR(t:T)(P:Nat→Prop)(H:Av)(cs:List AV):Option t.α→Prop
 |none=>cs=[.nilp]
 |some y=> ∃v,cs=[v]∧isPt v=true∧Zu t P H v y
theorem Zu.cut{t:T}{P Q:Nat→Prop}{H:Av}{v:AV}{y:t.α}{n:Nat}(hv:isPt v=true)(h:Zu t P H v y)(hm:B9 v≤n)(hw:CE(H.take n)≤n)(hp: ∀i,P i→i<n→Q i):Zu t Q(H.take n)v y:=by
 obtain⟨h1,cs,off,h2,h3,h4,_⟩:=h
 cases v<;>simp only[isPt,Bool.false_eq_true]at hv
 ·rename_i id o
  simp only[B9]at hm
  simp only[Vy]at h1
  simp only[place]at h2
  obtain⟨c,hc,e⟩:=Option.map_eq_some_iff.1 h2
  cases e
  refine⟨hp _ h1(by omega),cs,off,by simp only[place];rw[Oz(by omega),hc];rfl,h3,t.cut h4 ?_ hw hp,fun m hq=> ?_⟩
  ·have:=Tg hw(by omega)hc
   exact Nat.le_trans(K3 _ _)(Nat.le_trans(IQ _ _)this)
  ·simp only[B9];exact hq _(hp _ h1(by omega))
 ·rename_i id n' i o
  simp only[B9]at hm
  simp only[Vy]at h1
  simp only[place]at h2
  obtain⟨r,hr,h2⟩:=Option.bind_eq_some_iff.1 h2
  split at h2
  ·rename_i hn
   cases h2
   refine⟨hp _ h1(by omega),_,_,by simp only[place];rw[R4(by omega),hr,Option.bind_some,if_pos hn],h3,t.cut h4 ?_ hw hp,fun m hq=> ?_⟩
   ·have:=WQ hw(by omega)hr
    have h5: ∀(l:List(List AV))(i:Nat),CN(l.drop i)≤CN l:=by
     intro l
     induction l with
     |nil=>intro i;simp
     |cons x l ih=>
      intro i
      cases i with
      |zero=>exact Nat.le_refl _
      |succ i=>simp only[List.drop_succ_cons,CN];have:=ih i;omega
    have h6:=h5 r.2.2 n'
    rw[←Oa]at h6
    exact Nat.le_trans(K3 _ _)(Nat.le_trans(IQ _ _)(by omega))
   ·simp only[B9];exact hq _(hp _ h1(by omega))
  ·cases h2
def lQ(t:T):T where
 α:=Option t.α
 sz:=1
 agg:=false
 dep:=21
 R:=RefR t
 zc:=[.nilp]
 z:=none
 hz:=fun _ _=>rfl
 one:=fun _=>rfl
 len:=fun{_ _ _ x}h=>by
  cases x with
  |none=>rw[show _=[AV.nilp]from h];rfl
  |some y=>obtain⟨v,e,_⟩:=h;rw[e];rfl
 sca:=fun{_ _ _ x}h=>by
  cases x with
  |none=>rw[show _=[AV.nilp]from h];rfl
  |some y=>obtain⟨v,e,hv,_⟩:=h;rw[e];cases v<;>simp only[isPt,Bool.false_eq_true]at hv<;>rfl
 men:=fun{_ _ _ x m}h hp=>by
  cases x with
  |none=>rw[show _=[AV.nilp]from h];simp[Bh,B9]
  |some y=>obtain⟨v,e,_,_,_,_,_,_,_,hm⟩:=h;rw[e];simpa [Bh]using hm m hp
 mono:=fun{_ _ _ _ _ x}m h=>by
  cases x with
  |none=>exact h
  |some y=>obtain⟨v,e,hv,k⟩:=h;exact⟨v,e,hv,k.mono m⟩
 cut:=fun{_ _ _ _ x _}h hm hw hp=>by
  cases x with
  |none=>exact h
  |some y=>obtain⟨v,e,hv,k⟩:=h;exact⟨v,e,hv,k.cut hv(by rw[e]at hm;simpa [Bh]using hm)hw hp⟩
 frz:=fun _ hd h20 _ _=>by omega
section
variable {tb:CZ}{Γ:Cx}{a b:AO}
theorem nil_rp{t:T}{x:t.α}{P:Nat→Prop}{H:Av}{v:AV}{cl:Nat→List AV→Av→KH}{rho:AO→AV}(e:rho a=v)(h:Zu t P H v x):Bq tb cl rho H(.nilc a)=some(v,none):=by
 have:=h.1
 cases v<;>simp only[Vy]at this<;>simp only[Bq,e]
theorem h_nilR{t:T}{x:Option t.α}(ha:CA tb Γ a(.val(lQ t)x)):F1 tb Γ(.nilc a)x fun y=> .rp t y:=by
 rintro E rv fp f H R y rfl
 rcases ha E rv fp f H R with⟨h,_⟩|⟨_,v,e,hv,h⟩
 ·cases h
 ·cases e
  exact⟨_,none,nil_rp rfl h,rfl,h⟩
def T.Flat(t:T):Prop:= ∀{P Q:Nat→Prop}{H G:Av}{cs:List AV}{x:t.α},t.R P H cs x→t.R Q G cs x
theorem flat_b:T.b.Flat:=fun h=>h
theorem jX{k:IntKind}:(T.int k).Flat:=fun h=>h
theorem zS:T.u64.Flat:=fun h=>h
theorem PP:Ax.Flat:=fun h=>h
theorem T.Flat.V{t:T}(h:t.Flat){P Q:Nat→Prop}{H G:Av}{v:AV}{x:t.α}(r:t.V P H v x):t.V Q G v x:=by
 rcases r with⟨a,cs,e,r⟩|⟨a,r⟩
 ·exact .inl⟨a,cs,e,h r⟩
 ·exact .inr⟨a,h r⟩
inductive T0:List T→Prop where
 |nil:T0 []
 |cons{t:T}{l:List T}:t.Flat→T0 l→T0(t::l)
theorem Vj.flat{P Q:Nat→Prop}{H G:Av}: ∀{l:List T}{vs:List AV}{x:BU l},T0 l→Vj P H l vs x→Vj Q G l vs x
 |[],_,_,_,h=>h
 |[a],_,_, .cons k _,⟨v,e,h⟩=>⟨v,e,k.V h⟩
 |_::_::_,_,_, .cons k l,⟨v,q,e,h,g⟩=>⟨v,q,e,k.V h,Vj.flat l g⟩
def ArgP(tb:CZ)(Γ:Cx)(a:AO)(t:T)(x:t.α):Prop:= ∀E rv fp f H,Bp E Γ rv fp f H→t.V(fun i=>i<H.length)H(eval tb f a)x
theorem a_v{t:T}{x:t.α}(h:CA tb Γ a(.val t x)):ArgP tb Γ a t x:=fun E rv fp f H R=>T.V.mono(fun i hi=>⟨Pf.lt R.le hi,rfl⟩)(h E rv fp f H R)
theorem a_p{t:T}{x:t.α}{j o N:Nat}{ps:List(Nat×AL)}(ha:CA tb Γ a(.cp j o))(hj:AG Γ.ss j=some(.cells ps))(hp:Js ps o=some(N, .val t x,0)):ArgP tb Γ a(lQ t)(some x):=by
 intro E rv fp f H R
 obtain⟨l,id,e,hv⟩:=ha E rv fp f H R
 obtain⟨cs,h0,h2,h3⟩:=Gc R hj e
 obtain⟨b',c,e0,e1,e2,e3,e4,e5,_⟩:=FH h3 hp
 have hlen:=t.len e4
 have hlt:=(R.fplt j id l((h0 id).2 rfl)).1
 have hs:=e5 0 t.sz(by omega)
 rw[Nat.add_zero]at e1 hs
 subst e1
 have hc:sub c 0 t.sz=c:=by simp only[sub,List.drop_zero];exact List.take_of_length_le(by omega)
 rw[hc]at hs
 refine .inr⟨rfl,_,rfl,by rw[hv];rfl,?_⟩
 rw[hv]
 refine⟨hlt,cs,o,by simp only[place,h2,Option.map_some],by omega,by rw[hs];exact t.mono(fun i hi=>⟨Pf.lt R.le hi,rfl⟩)e4,fun m hm=> ?_⟩
 simp only[B9]
 exact hm _ hlt
inductive Zv(tb:CZ)(Γ:Cx):(As:List T)→List AO→BU As→Prop where
 |one{a:AO}{t:T}{x:t.α}(h:ArgP tb Γ a t x):Zv tb Γ [t] [a]x
 |cons{a:AO}{t u:T}{x:t.α}{As:List T}{l:List AO}{y:BU(u::As)}(h:ArgP tb Γ a t x)(k:Zv tb Γ(u::As)l y):Zv tb Γ(t::u::As)(a::l)(x,y)
theorem Zv.spec{E:Pr}{rv:Nat→AV}{fp:Fp}{f:Fr}{H:Av}(R:Bp E Γ rv fp f H): ∀{As:List T}{l:List AO}{x:BU As},Zv tb Γ As l x→Vj(fun i=>i<H.length)H As(l.map(eval tb f))x
 |_,_,_, .one h=>⟨_,rfl,h E rv fp f H R⟩
 |_,_,_, .cons h k=>⟨_,_,rfl,h E rv fp f H R,k.spec R⟩
theorem qN{g:Nat}{As Rs:List T}{F:BU As→Option(BU Rs)}{l:List AO}{x:BU As}(sp:AH tb g As Rs F)(fl:T0 Rs)(hx:Zv tb Γ As l x):F1 tb Γ(.call g l)(F x)fun r=>wQ Rs r:=by
 intro E rv fp f H R r hr
 obtain⟨v,u,h1,h2,vs,h3,h4⟩:=(sp(fun i=>i<H.length)H _ x(fun _ h=>h)R.wf(hx.spec R)r hr).call
 exact⟨v,u,by simp only[Bq];exact h1,h2,Xc⟨vs,h3,h4.flat fl⟩⟩
theorem zI{g:Nat}{As:List T}{t:T}{F:BU As→Option(BU [t])}{l:List AO}{x:BU As}(sp:AH tb g As [t]F)(fl:T0 [t])(hx:Zv tb Γ As l x):F1 tb Γ(.call g l)(F x)fun r:t.α=> .val t r:=qN sp fl hx
end
end Go.Proofs.YtobejhpigbllpaaGreatDoor.Am
namespace Go.Proofs.YtobejhpigbllpaaGreatDoor.Am
def Yu:Dom where
 α:=AN×Nat
 R:=fun F _ H v x=> ∃id,v= .ptr id 0∧(∀i,F i↔i=id)∧H[id]? =some(.iter x.1 x.2)
 lt:=fun⟨id,_,hF,h⟩i hi=>by rw[(hF i).1 hi];exact(List.getElem?_eq_some_iff.1 h).1
 men:=fun⟨id,e,hF,_⟩_ hm=>by rw[e];simp only[B9];exact hm id((hF id).2 rfl)
 mono:=fun _ g⟨id,e,hF,h⟩=>⟨id,e,hF,by rw[g id((hF id).2 rfl)];exact h⟩
def EP(s:AN)(pos:Nat):Int×Nat:=((Utf8.decode⟨s.toArray⟩pos).1,(Utf8.decode⟨s.toArray⟩pos).2)
section
variable {tb:CZ}{Γ:Cx}{a b:AO}
theorem yI{x:UInt8}(h:CA tb Γ a(.val T.u8 x)):CA tb Γ a(.val(T.int .u8)(x.toNat:Int)):=fun E rv fp f H R=>Ca.2(U4.1(h E rv fp f H R))
theorem o_n16{x:UInt16}(h:CA tb Γ a(.val T.u16 x)):CA tb Γ a(.val(T.int .u16)(x.toNat:Int)):=fun E rv fp f H R=>Ca.2(fA.1(h E rv fp f H R))
theorem Mi{x:UInt32}(h:CA tb Γ a(.val T.u32 x)):CA tb Γ a(.val(T.int .u32)(x.toNat:Int)):=fun E rv fp f H R=>Ca.2(eZ.1(h E rv fp f H R))
theorem M_rng{s:AN}{d:Nat}(j:Nat)(hj:AG Γ.ss j=none)(ha:CA tb Γ a(.val Ax s)):Wp tb Γ(some d)(.rng a)(some())fun _=>⟨(d, .own j)::Γ.ts,(j, .dom Yu(s,0))::Γ.ss⟩:=by
 rintro E rv fp f H R _⟨⟩
 obtain⟨rv',fp',h1,h2,h3⟩:=R.more(j:=j)(S:= .dom Yu(s,0))(v:= .ptr H.length 0)(o:= .iter s 0)(H7 hj)(by simp[En])rfl(by simp[B9])rfl fun rv' fp' e1 e2 hP hs=>
  ⟨_,e1,e2,by simp⟩
 refine⟨.ptr H.length 0,some(H++[BH.iter s 0]),by simp only[Bq,EC.1(ha E rv fp f H R)],rv',fp',h3.push(d:=d)(φ:= .own j)⟨h2,h1.symm⟩⟩
variable {ks:List Kf}{ρ:Type}{Q:Mb ρ}
def Aa.nxt{s:AN}{pos j d:Nat}{rest:List AU}(ha:CA tb Γ a(.own j))(hj:AG Γ.ss j=some(.dom Yu(s,pos)))
  (k1:(x:Int×Nat)→Aa tb⟨(d, .tup [⟨T.b,true⟩,⟨T.int .i64,((pos:Nat):Int)⟩,⟨T.int .i32,x.1⟩])::Γ.ts,(j, .dom Yu(s,pos+x.2))::Γ.ss⟩(rg false rest)ks Q)
  (k2:Aa tb⟨(d, .tup [⟨T.b,false⟩])::Γ.ts,Γ.ss⟩(rg false rest)ks Q):Aa tb Γ(rg false(⟨some d,none, .nxt a⟩::rest))ks Q:=
 ⟨if pos<s.length then(k1(EP s pos)).m else k2.m,fun E f H⟨rv,fp,I⟩r hr=>by
  have hl:Ba Γ.ss j:=Lh hj rfl
  obtain⟨_,hv⟩:=ha E rv fp f H I
  obtain⟨id,e,hF,hH⟩:=I.slots j _ hj
  rw[e]at hv
  have hi:Xx H id=some(s,pos):=by simp only[Xx,hH]
  split at hr
  ·rename_i hp
   obtain⟨rv',fp',h1,h2,h3⟩:=I.set(j:=j)(S:= .dom Yu(s,pos+(EP s pos).2))(v:=rv j)(o:= .iter s(pos+(EP s pos).2))(by rw[hj];rfl)hl hF(by simp[En])rfl(I.rvlt j hl)(.inl rfl)(I.scal j hl)
    fun rv' fp' e1 e2 hP _=>⟨id,by rw[e1,e],e2,by rw[List.getElem?_set_self(I.fplt j id hl((hF id).2 rfl)).1]⟩
   have hx:Bq tb(Ck tb)(eval tb f)H(.nxt a)=some(.tup [.b true, .i .i64 pos, .i .i32(EP s pos).1],some(H.set id(BH.iter s(pos+(EP s pos).2)))):=by
    simp only[Bq,hv,hi,Option.bind_some,if_true,if_pos hp];rfl
   obtain⟨e',f',H',h4,h5⟩:=(k1(EP s pos)).ok E _ _⟨rv',fp',h3.push(d:=d)(φ:= .tup [⟨T.b,true⟩,⟨T.int .i64,((pos:Nat):Int)⟩,⟨T.int .i32,(EP s pos).1⟩])
    ⟨[.b true, .i .i64 pos, .i .i32(EP s pos).1],rfl,Gg.2 rfl,Ca.2 rfl,Ca.2 rfl,trivial⟩⟩r hr
   exact⟨e',f',H',by rw[Kk hx];exact h4,h5⟩
  ·rename_i hp
   have hx:Bq tb(Ck tb)(eval tb f)H(.nxt a)=some(.tup [.b false],none):=by
    simp only[Bq,hv,hi,Option.bind_some,if_true,if_neg hp]
   obtain⟨e',f',H',h4,h5⟩:=k2.ok E _ H⟨rv,fp,I.push(d:=d)(φ:= .tup [⟨T.b,false⟩])⟨[.b false],rfl,Gg.2 rfl,trivial⟩⟩r hr
   exact⟨e',f',H',by rw[Kk hx];exact h4,h5⟩⟩
def aW{x y:AC}(h:CA tb Γ a(.val T.b true))(s:Aa tb Γ x ks Q):Aa tb Γ(.cond a x y)ks Q:=
 ⟨s.m,fun E f H⟨rv,fp,I⟩r hr=>by
  have hv:=Gg.1(h E rv fp f H I)
  obtain⟨e,f',H',h4,h5⟩:=s.ok E f H⟨rv,fp,I⟩r hr
  exact⟨e,f',H',by simp only[AX,hv,if_true];exact h4,h5⟩⟩
def aX{x y:AC}(h:CA tb Γ a(.val T.b false))(s:Aa tb Γ y ks Q):Aa tb Γ(.cond a x y)ks Q:=
 ⟨s.m,fun E f H⟨rv,fp,I⟩r hr=>by
  have hv:=Gg.1(h E rv fp f H I)
  obtain⟨e,f',H',h4,h5⟩:=s.ok E f H⟨rv,fp,I⟩r hr
  exact⟨e,f',H',by simp only[AX,hv,Bool.false_eq_true,if_false];exact h4,h5⟩⟩
end
end Go.Proofs.YtobejhpigbllpaaGreatDoor.Am
namespace Go.Proofs.YtobejhpigbllpaaGreatDoor.Am
def Q4:HT→Bool
 | .mv _=>true
 | .pick _ _ _=>true
 | .bld _ _=>true
 | .bll _ _ _=>true
 | .fa _ _=>true
 | .nilc _=>true
 | .bin _ _ _=>true
 | .eq _ _ _ _=>true
 | .un _ _=>true
 | .cvi _ _=>true
 | .cvid _=>true
 | .cvc _=>true
 | .mkf _ _ _=>true
 | .sls _ _ _=>true
 | .fld _ _ _ _=>true
 | .iaa _ _ _ _=>true
 | .ixa _ _ _ _ _=>true
 | .ixs _ _=>true
 | .ext _ _=>true
 | .mkif _ _=>true
 | .len _=>true
 | .lens _=>true
 | .mnx _ _ _=>true
 | .isni _ _=>true
 | .capn _=>true
 |_=>false
structure VY where
 ag:Bool
 n:Nat
 t:Nat
 v:AV
 c:Nat
def PN(d:Option Nat):List VY→Bool
 |[]=>true
 |m::r=>(match d with|some d=> !Nat.beq d m.t|none=>true)&&PN d r
def eN:List VY→List VY
 |[]=>[]
 |m::r=>match m.c with
  |0=>eN r
  |1=>eN r
  |c+2=>{m with c:=c+1}::eN r
def R7(N k lo hi:Nat)(o:HT):Bool:=(Nat.beq lo k&&Nat.beq hi k)||(Q4 o&&Nat.ble hi N)
def oY(N k lo hi:Nat)(o:HT)(v:AV)(ms:List VY):List VY:=
 bif R7 N k lo hi o then ms else match o with
  | .ld ag n(.t t)=>⟨ag,n,t,v,hi-k⟩::ms
  |_=>ms
def qF(N k lo hi:Nat)(d:Option Nat):HT→Bool
 | .ld _ _(.t t)=>Nat.beq lo k&&Nat.ble hi N&&(match d with|some d=> !Nat.beq d t|none=>true)
 |_=>false
structure vA where
 ag:Bool
 n:Nat
 a:AV
 v:AV
 lo:Nat
def Gw(tb:CZ)(cl:Nat→List AV→Av→KH)(N:Nat):Nat→List VY→List vA→List AU→List(Option(Nat×Nat))→Fr→Av→Fr×Av→Prop
 |k,_,_,[],[],f,h,p=>k=N∧p=(f,h)
 |k,ms,es,⟨d,g,o⟩::l,none::w,f,h,p=>(wanted f g=some true∧ ∃q es',Bq tb cl(eval tb f)h o=some q∧PN d ms=true∧
   (∀m∈ms,0<m.c→Bq tb cl(eval tb(put f d q.1))(q.2.getD h)(.ld m.ag m.n(.t m.t))=some(m.v,none))∧
   (∀e∈es',(e∈es∨e.lo=k)∧load h e.ag e.n e.a=some e.v)∧Gw tb cl N(k+1)(eN ms)es' l w(put f d q.1)(q.2.getD h)p)∨
   (wanted f g=some false∧ms=[]∧Gw tb cl N(k+1) [] []l w(put f d(.tup []))h p)
 |k,ms,es,⟨d,g,o⟩::l,some(lo,hi)::w,f,h,p=>(wanted f g=some true∧ ∃q,Bq tb cl(eval tb f)h o=some q∧q.2.getD h=h∧PN d ms=true∧
   (((R7 N k lo hi o||qF N k lo hi d o)=true∧Gw tb cl N k(oY N k lo hi o q.1 ms)es l w(put f d q.1)h p)∨
    (hi=k∧(∃e∈es,∃t,o= .ld e.ag e.n(.t t)∧get f t=e.a∧q.1=e.v∧e.lo≤lo)∧Gw tb cl N k ms es l w(put f d q.1)h p)))∨
   (wanted f g=some false∧PN d ms=true∧Gw tb cl N k ms es l w(put f d(.tup []))h p)
 |_,_,_,_,_,_,_,_=>False
section
variable {tb:CZ}{cl:Nat→List AV→Av→KH}
theorem uR{o:HT}(ho:Q4 o=true){rho:AO→AV}{h h':Av}:Bq tb cl rho h o=Bq tb cl rho h' o:=by
 cases o<;>first|(simp only[Q4,Bool.false_eq_true]at ho;done)|rfl
theorem GE{x:Option AV}{p:AV×Option Av}(e:val x=some p):p.2=none:=by
 obtain⟨v,_,rfl⟩:=Option.map_eq_some_iff.1 e;rfl
theorem map_none{α:Type}{x:Option α}{f:α→AV}{p:AV×Option Av}(e:x.map(fun a=>(f a,(none:Option Av)))=some p):p.2=none:=by
 obtain⟨v,_,rfl⟩:=Option.map_eq_some_iff.1 e;rfl
theorem bind_none{α:Type}{x:Option α}{f:α→KH}{p:AV×Option Av}(h: ∀a,f a=some p→p.2=none)(e:x.bind f=some p):p.2=none:=by
 obtain⟨v,_,e⟩:=Option.bind_eq_some_iff.1 e;exact h v e
theorem AaI{o:HT}(ho:Q4 o=true){rho:AO→AV}{h:Av}{p:AV×Option Av}(e:Bq tb cl rho h o=some p):p.2=none:=by
 cases o<;>first|(simp only[Q4,Bool.false_eq_true]at ho;done)|skip
 case mv=>simp only[Bq,Option.some.injEq]at e;subst e;rfl
 case pick=>simp only[Bq]at e;split at e<;>first|(cases e;rfl)|cases e
 case bld=>exact GE e
 case bll=>exact GE e
 case nilc=>simp only[Bq]at e;split at e<;>first|(cases e;rfl)|cases e
 case bin=>exact GE e
 case eq=>exact GE e
 case un=>exact GE e
 case cvi=>simp only[Bq]at e;split at e<;>first|(cases e;rfl)|cases e
 case cvid=>simp only[Bq]at e;split at e<;>first|(cases e;rfl)|cases e
 case cvc=>simp only[Bq]at e;split at e<;>first|(cases e;rfl)|cases e
 case mkf=>simp only[Bq,Option.some.injEq]at e;subst e;rfl
 case sls=>simp only[Bq]at e;split at e<;>first|exact map_none e|cases e
 case fa=>exact GE e
 case fld=>simp only[Bq]at e;split at e<;>first|cases e|(split at e<;>first|exact GE e|cases e)
 case iaa=>exact bind_none(fun a e=>by split at e<;>first|exact GE e|cases e)e
 case ixa=>exact bind_none(fun a e=>by split at e<;>first|cases e|(split at e<;>first|exact GE e|cases e))e
 case ixs=>exact bind_none(fun a e=>by split at e<;>first|cases e|(split at e<;>first|exact map_none e|cases e))e
 case ext=>simp only[Bq]at e;split at e<;>first|exact GE e|cases e
 case mkif=>simp only[Bq,Option.some.injEq]at e;subst e;rfl
 case len=>exact map_none e
 case lens=>simp only[Bq]at e;split at e<;>first|(cases e;rfl)|cases e
 case isni=>simp only[Bq]at e;split at e<;>first|(cases e;rfl)|cases e
 case capn=>simp only[Bq]at e;split at e<;>first|(cases e;rfl)|cases e
 case mnx=>simp only[Bq]at e;split at e<;>first|cases e|(split at e<;>first|(cases e;rfl)|cases e)
theorem oU{o:HT}(ho:Q4 o=true){rho:AO→AV}{h h':Av}{p:AV×Option Av}(e:Bq tb cl rho h o=some p):Bq tb cl rho h' o=some(p.1,none):=by
 rw[uR ho(h':=h),e]
 have:=AaI ho e
 obtain⟨a,b⟩:=p
 simp only at this
 rw[this]
theorem KB{d:Option Nat}{f:Fr}{v:AV}: ∀{ms:List VY},PN d ms=true→ ∀m∈ms,eval tb(put f d v)(.t m.t)=eval tb f(.t m.t)
 |[],_,m,hm=>by cases hm
 |q::r,h,m,hm=>by
  simp only[PN,Bool.and_eq_true]at h
  rcases List.mem_cons.1 hm with rfl|hm
  ·cases d with
   |none=>rfl
   |some d=>
    have:=h.1
    simp only[Bool.not_eq_true']at this
    simp only[eval,put,get]
    rw[if_neg fun e=>by rw[e,Nat.beq_refl]at this;cases this]
  ·exact KB h.2 m hm
theorem SD{f g:Fr}{h:Av}{ag:Bool}{n t:Nat}(e:eval tb f(.t t)=eval tb g(.t t)):Bq tb cl(eval tb f)h(.ld ag n(.t t))=Bq tb cl(eval tb g)h(.ld ag n(.t t)):=by
 simp only[Bq,e]
def AaU(tb:CZ)(cl:Nat→List AV→Av→KH)(f:Fr)(tl:List Av)(m:VY):Prop:= ∀i h',i<m.c→tl[i]? =some h'→Bq tb cl(eval tb f)h'(.ld m.ag m.n(.t m.t))=some(m.v,none)
theorem lH: ∀{ms:List VY}{m:VY},m∈ms→1<m.c→{m with c:=m.c-1}∈eN ms
 |q::r,m,hm,hc=>by
  rcases List.mem_cons.1 hm with rfl|hm
  ·obtain⟨ag,n,t,v,c⟩:=m
   match c,hc with
   |c+2,_=>simp[eN]
  ·have:=lH hm hc
   simp only[eN]
   split
   ·exact this
   ·exact this
   ·exact List.mem_cons_of_mem _ this
theorem AaM{N k lo hi:Nat}{o:HT}{v:AV}{ms:List VY}{m:VY}(h:m∈ms):m∈oY N k lo hi o v ms:=by
 simp only[oY]
 cases R7 N k lo hi o with
 |true=>exact h
 |false=>simp only[cond_false];split<;>simp[h]
theorem nA{N k lo hi:Nat}{d:Option Nat}{o:HT}(h:qF N k lo hi d o=true): ∃ag n t,o= .ld ag n(.t t)∧lo=k∧hi≤N∧d≠some t:=by
 match o,h with
 | .ld ag n(.t t),h=>
  simp only[qF,Bool.and_eq_true]at h
  refine⟨ag,n,t,rfl,Nat.eq_of_beq_eq_true h.1.1,Nat.le_of_ble_eq_true h.1.2,?_⟩
  rintro rfl
  have:=h.2
  simp only[Nat.beq_refl,Bool.not_true,Bool.false_eq_true]at this
open Classical in
theorem L4{N:Nat}: ∀{l:List AU}{k:Nat}{ms:List VY}{es:List vA}{w:List(Option(Nat×Nat))}{f:Fr}{h:Av}{f':Fr}{h':Av},Gw tb cl N k ms es l w f h(f',h')→
  ∃tl,HV tb cl l w f h=some(h::tl)∧(h::tl).getLast?=some h'∧k+tl.length=N∧(∀m∈ms,AaU tb cl f tl m)∧ ∀(pre:List Av),pre.length=k→(∀e∈es,∀j g,e.lo≤j→pre[j]? =some g→load g e.ag e.n e.a=some e.v)→JA tb cl(pre++h::tl)l w k f=some f'
 |[],k,ms,es,w,f,h,f',h',e=>by
  cases w with
  |nil=>
   simp only[Gw,Prod.mk.injEq]at e
   obtain⟨hk,rfl,rfl⟩:=e
   exact⟨[],by simp[HV],rfl,by simpa using hk,fun m _ i h' _ hi=>by simp at hi,fun pre hp _=>by simp[JA,hp]⟩
  |cons=>simp[Gw]at e
 |⟨d,g,o⟩::l,k,ms,es,[],f,h,f',h',e=>by simp[Gw]at e
 |⟨d,gd,o⟩::l,k,ms,es,none::w,f,h,f',h',e=>by
  simp only[Gw]at e
  rcases e with⟨hwt,p,es',hp,hc1,hc2,hc3,e⟩|⟨hwt,rfl,e⟩
  rotate_left
  ·obtain⟨tl,h1,h2,h3,h4,h5⟩:=L4 e
   refine⟨h::tl,?_,?_,by simp;omega,(fun m hm=>absurd hm(by simp)),fun pre hpre hes=> ?_⟩
   ·simp[HV,hwt,h1]
   ·simpa using h2
   ·have h6:=h5(pre++[h])(by simp[hpre])(fun x hx=>absurd hx(by simp))
    simp only[List.append_assoc,List.singleton_append]at h6
    have g0:(pre++h::h::tl)[k]? =some h:=by rw[←hpre,List.getElem?_append_right(Nat.le_refl _),Nat.sub_self];rfl
    have g1:(pre++h::h::tl)[k+1]? =some h:=by rw[←hpre,List.getElem?_append_right(by omega),Nat.add_sub_cancel_left];rfl
    simp only[JA,hwt,Option.bind_some,Bool.false_eq_true,if_false,g0,g1,if_true]
    exact h6
  obtain⟨tl,h1,h2,h3,h4,h5⟩:=L4 e
  refine⟨p.2.getD h::tl,?_,?_,by simp;omega,?_,fun pre hpre hes=> ?_⟩
  ·simp[HV,hwt,hp,h1]
  ·simpa using h2
  ·intro m hm i h' hi hg
   have he:=KB(tb:=tb)(f:=f)(v:=p.1)hc1 m hm
   rw[SD he.symm]
   cases i with
   |zero=>
    simp only[List.getElem?_cons_zero,Option.some.injEq]at hg
    subst hg
    exact hc2 m hm(by omega)
   |succ i=>
    simp only[List.getElem?_cons_succ]at hg
    exact h4 _(lH hm(by omega))i h'(by simp only;omega)hg
  ·have h6:=h5(pre++[h])(by simp[hpre])(fun x hx j g hj hg=>by
    rcases Nat.lt_or_ge j pre.length with hlt|hge
    ·rw[List.getElem?_append_left hlt]at hg
     rcases(hc3 x hx).1 with hx'|hx'
     ·exact hes x hx' j g hj hg
     ·omega
    ·rw[List.getElem?_append_right hge]at hg
     have:j-pre.length=0:=by
      rcases Nat.eq_zero_or_pos(j-pre.length)with h|h
      ·exact h
      ·rw[List.getElem?_eq_none(by simp;omega)]at hg;cases hg
     rw[this]at hg
     simp only[List.getElem?_cons_zero,Option.some.injEq]at hg
     subst hg
     exact(hc3 x hx).2)
   simp only[List.append_assoc,List.singleton_append]at h6
   have g0:(pre++h::p.2.getD h::tl)[k]? =some h:=by rw[←hpre,List.getElem?_append_right(Nat.le_refl _),Nat.sub_self];rfl
   have g1:(pre++h::p.2.getD h::tl)[k+1]? =some(p.2.getD h):=by rw[←hpre,List.getElem?_append_right(by omega),Nat.add_sub_cancel_left];rfl
   simp only[JA,hwt,Option.bind_some,if_true,g0,hp,g1]
   exact h6
 |⟨d,gd,o⟩::l,k,ms,es,some(lo,hi)::w,f,h,f',h',e=>by
  simp only[Gw]at e
  rcases e with⟨hwt,p,hp,hu,hfr,e⟩|⟨hwt,hfr,e⟩
  rotate_left
  ·obtain⟨tl,h1,h2,h3,h4,h5⟩:=L4 e
   refine⟨tl,?_,h2,h3,fun m hm i h' hi hg=> ?_,fun pre hpre hes=> ?_⟩
   ·simp[HV,hwt,h1]
   ·have he:=KB(tb:=tb)(f:=f)(v:= .tup [])hfr m hm
    rw[SD he.symm]
    exact h4 m hm i h' hi hg
   ·have h6:=h5 pre hpre hes
    simp only[JA,hwt,Option.bind_some,Bool.false_eq_true,if_false]
    exact h6
  rcases e with⟨hpl,e⟩|⟨hhi0,⟨x,hx,t0,hxo,hxa,hxv,hxl⟩,e⟩
  ·obtain⟨tl,h1,h2,h3,h4,h5⟩:=L4 e
   have hms: ∀m∈ms,AaU tb cl f tl m:=fun m hm i h' hi hg=>by
    have he:=KB(tb:=tb)(f:=f)(v:=p.1)hfr m hm
    rw[SD he.symm]
    exact h4 m(AaM hm)i h' hi hg
   refine⟨tl,?_,h2,h3,hms,fun pre hpre hes=> ?_⟩
   ·simp[HV,hwt,hp,hu,h1]
   ·have h6:=h5 pre hpre hes
    have g0:(pre++h::tl)[k]? =some h:=by rw[←hpre,List.getElem?_append_right(Nat.le_refl _),Nat.sub_self];rfl
    have hlen:(pre++h::tl).length=N+1:=by simp[hpre];omega
    have hk: ∀j,lo≤j→j<lo+(hi+1-lo)→ ∃u,((pre++h::tl)[j]?).bind(fun h=>Bq tb cl(eval tb f)h o)=some(p.1,u)∧some(u.getD((pre++h::tl)[j]?.getD []))=(pre++h::tl)[j]? :=by
     intro j hj1 hj2
     simp only[Bool.or_eq_true]at hpl
     cases hP:R7 N k lo hi o with
     |true=>
      have hP':=hP
      simp only[R7,Bool.or_eq_true,Bool.and_eq_true]at hP'
      rcases hP' with⟨hlo,hhi⟩|⟨hb,hle⟩
      ·have hlo:=Nat.eq_of_beq_eq_true hlo
       have hhi:=Nat.eq_of_beq_eq_true hhi
       obtain rfl:j=k:=by omega
       exact⟨p.2,by rw[g0,Option.bind_some,hp],by rw[g0];simp[hu]⟩
      ·have hle:=Nat.le_of_ble_eq_true hle
       have hj:j<(pre++h::tl).length:=by omega
       rw[List.getElem?_eq_getElem hj]
       exact⟨none,by rw[Option.bind_some];exact oU hb hp,rfl⟩
     |false=>
      have hL:qF N k lo hi d o=true:=hpl.resolve_left(by rw[hP];simp)
      obtain⟨ag,n,t,rfl,hlo,hhi,hd⟩:=nA hL
      have hp2:p.2=none:=GE hp
      rcases Nat.lt_or_ge k j with hkj|hkj
      ·have hm:(⟨ag,n,t,p.1,hi-k⟩:VY)∈oY N k lo hi(.ld ag n(.t t))p.1 ms:=by
        simp only[oY,hP,cond_false];simp
       have hj:j<(pre++h::tl).length:=by omega
       have hjt:(pre++h::tl)[j]? =tl[j-k-1]? :=by
        rw[List.getElem?_append_right(by omega),hpre,show j-k=(j-k-1)+1 by omega,List.getElem?_cons_succ];rfl
       have hjl:j-k-1<tl.length:=by simp[hpre]at hlen;omega
       rw[hjt,List.getElem?_eq_getElem hjl]
       have:=h4 _ hm(j-k-1)_(by simp only;omega)(List.getElem?_eq_getElem hjl)
       have he:eval tb(put f d p.1)(.t t)=eval tb f(.t t):=by
        cases d with
        |none=>rfl
        |some d=>
         simp only[eval,put,get]
         rw[if_neg fun e=>hd(by rw[e])]
       rw[SD he]at this
       exact⟨none,by rw[Option.bind_some];exact this,rfl⟩
      ·obtain rfl:j=k:=by omega
       exact⟨p.2,by rw[g0,Option.bind_some,hp],by rw[g0];simp[hu]⟩
    simp only[JA,hwt,Option.bind_some,if_true,g0,hp]
    rw[if_pos(by
     rw[List.all_eq_true]
     intro j hj
     rw[List.mem_range'_1]at hj
     exact decide_eq_true(hk j hj.1 hj.2))]
    exact h6
  ·obtain⟨tl,h1,h2,h3,h4,h5⟩:=L4 e
   have hms: ∀m∈ms,AaU tb cl f tl m:=fun m hm i h' hi hg=>by
    have he:=KB(tb:=tb)(f:=f)(v:=p.1)hfr m hm
    rw[SD he.symm]
    exact h4 m hm i h' hi hg
   refine⟨tl,?_,h2,h3,hms,fun pre hpre hes=> ?_⟩
   ·simp[HV,hwt,hp,hu,h1]
   ·have h6:=h5 pre hpre hes
    have g0:(pre++h::tl)[k]? =some h:=by rw[←hpre,List.getElem?_append_right(Nat.le_refl _),Nat.sub_self];rfl
    have hk: ∀j,lo≤j→j<lo+(hi+1-lo)→ ∃u,((pre++h::tl)[j]?).bind(fun h=>Bq tb cl(eval tb f)h o)=some(p.1,u)∧some(u.getD((pre++h::tl)[j]?.getD []))=(pre++h::tl)[j]? :=by
     intro j hj1 hj2
     rcases Nat.lt_or_ge j k with hjk|hjk
     ·have hjp:j<pre.length:=by omega
      rw[List.getElem?_append_left hjp,List.getElem?_eq_getElem hjp]
      have:=hes x hx j pre[j](by omega)(List.getElem?_eq_getElem hjp)
      refine⟨none,?_,rfl⟩
      rw[Option.bind_some,hxo,hxv]
      simp only[Bq,eval,hxa,this,val,Option.map_some]
     ·obtain rfl:j=k:=by omega
      exact⟨p.2,by rw[g0,Option.bind_some,hp],by rw[g0];simp[hu]⟩
    simp only[JA,hwt,Option.bind_some,if_true,g0,hp]
    rw[if_pos(by
     rw[List.all_eq_true]
     intro j hj
     rw[List.mem_range'_1]at hj
     exact decide_eq_true(hk j hj.1 hj.2))]
    exact h6
theorem aE{l:List AU}{w:List(Option(Nat×Nat))}{f:Fr}{h:Av}{n:Nat}{p:Fr×Av}(e:Gw tb cl n 0 [] []l w f h p):
  AX tb cl(.regd l w)f h=some(.normal,p.1,p.2):=by
 obtain⟨tl,h1,h2,h3,h4,h5⟩:=L4(f':=p.1)(h':=p.2)e
 have h6:=h5 []rfl(fun e he=>by cases he)
 simp only[List.nil_append]at h6
 simp only[AX,h1,Option.bind_some,List.tail_cons,h6,h2,Option.map_some]
end
structure Ob where
 ag:Bool
 n:Nat
 t:Nat
 d:Nat
 φ:AL
 c:Nat
def eO:List Ob→List Ob
 |[]=>[]
 |m::r=>match m.c with
  |0=>eO r
  |1=>eO r
  |c+2=>{m with c:=c+1}::eO r
def Oq(d:Option Nat):List Ob→Bool
 |[]=>true
 |m::r=>(match d with|some d=> !Nat.beq d m.t&& !Nat.beq d m.d|none=>true)&&Oq d r
def T.Uni(t:T):Prop:= ∀{P Q:Nat→Prop}{H G:Av}{cs ds:List AV}{x:t.α},t.R P H cs x→t.R Q G ds x→cs=ds
theorem Yo{α:Type}{c:α→AV}{z:α}{hs hm}:(Tx α c z hs hm).Uni:=fun h g=>h.trans g.symm
theorem Cz{k:IntKind}:(T.int k).Uni:=Yo
theorem I6:T.u8.Uni:=Yo
theorem RU:T.u64.Uni:=Yo
theorem AW{a b:T}(h:a.Uni)(g:b.Uni):(CH a b).Uni:=by
 rintro P Q H G cs ds x⟨c,d,e,h1,h2⟩⟨c',d',e',h1',h2'⟩
 rw[e,e',h h1 h1',g h2 h2']
theorem BW{t:T}{β:Type}{f:β→t.α}{g:t.α→β}{hfg: ∀y,f(g y)=y}(h:t.Uni):(Pg t β f g hfg).Uni:=fun r r'=>h r r'
theorem CJ.uni{t:T}(h:t.Uni){P Q:Nat→Prop}{H G:Av}: ∀{c d:List(List AV)}{x:List t.α},CJ t P H c x→CJ t Q G d x→c=d
 |[],[],[],_,_=>rfl
 |_::_,_::_,_::_,h1,h2=>by rw[h h1.1 h2.1,CJ.uni h h1.2 h2.2]
 |[],_::_,[],_,h2=>h2.elim
 |_::_,_,[],h1,_=>h1.elim
 |[],_,_::_,h1,_=>h1.elim
 |_::_,[],_::_,_,h2=>h2.elim
theorem DZ{n:Nat}{t:T}(h:t.Uni):(Ay n t).Uni:=by
 rintro P Q H G cs ds x⟨c,e,h1⟩⟨c',e',h1'⟩
 rw[e,e',h1.uni h h1']
theorem T.Uni.V{t:T}(h:t.Uni){P Q:Nat→Prop}{H G:Av}{v w:AV}{x:t.α}(r:t.V P H v x)(r':t.V Q G w x):v=w:=by
 rcases r with⟨ha,cs,rfl,r⟩|⟨ha,r⟩
 ·rcases r' with⟨_,ds,rfl,r'⟩|⟨hb,_⟩
  ·rw[h r r']
  ·rw[ha]at hb;cases hb
 ·rcases r' with⟨hb,_⟩|⟨_,r'⟩
  ·rw[ha]at hb;cases hb
  ·have:=h r r'
   simpa using this
def AL.Uni:AL→Prop
 | .val t _=>t.Uni
 | .own _=>True
 | .cp _ _=>True
 | .ep _ _ _=>True
 | .oc _ _ _ _=>True
 | .con _=>True
 | .kv _=>True
 | .fnv _ _ _=>True
 |_=>False
theorem AL.Uni.eq{φ:AL}(h:φ.Uni){rv:Nat→AV}{ss:Ss}{P Q:Nat→Prop}{H G:Av}{v w:AV}(r:FR rv ss P H φ v)(r':FR rv ss Q G φ w):v=w:=by
 cases φ<;>simp only[AL.Uni]at h
 case val t x=>exact T.Uni.V h r r'
 case own j=>exact r.2.trans r'.2.symm
 case cp j o=>
  obtain⟨_,id,e,rfl⟩:=r
  obtain⟨_,id',e',rfl⟩:=r'
  rw[e]at e';cases e';rfl
 case ep j i o=>
  obtain⟨_,id,n,e,_,rfl⟩:=r
  obtain⟨_,id',n',e',_,rfl⟩:=r'
  rw[e]at e';cases e';rfl
 case oc j o s n=>
  obtain⟨_,id,e,rfl⟩:=r
  obtain⟨_,id',e',rfl⟩:=r'
  rw[e]at e';cases e';rfl
 case con c=>exact r.1.trans r'.1.symm
 case kv j=>exact r.2.trans r'.2.symm
 case fnv f js ks=>exact r.2.trans r'.2.symm
inductive VX(tb:CZ)(Γ:Cx):List Ob→Prop where
 |nil:VX tb Γ []
 |cons{ag:Bool}{n t d c:Nat}{φ:AL}{l:List Ob}(h:F1 tb Γ(.ld ag n(.t t))(some())fun _=>φ)(hd:CA tb Γ(.t d)φ)(hu:φ.Uni)(r:VX tb Γ l):VX tb Γ(⟨ag,n,t,d,φ,c⟩::l)
inductive lV(f:Fr):List Ob→List VY→Prop where
 |nil:lV f [] []
 |cons{ag:Bool}{n t d c:Nat}{φ:AL}{v:AV}{l:List Ob}{ms:List VY}(h:get f d=v)(r:lV f l ms):lV f(⟨ag,n,t,d,φ,c⟩::l)(⟨ag,n,t,v,c⟩::ms)
theorem lV.dec{f:Fr}: ∀{l:List Ob}{ms:List VY},lV f l ms→lV f(eO l)(eN ms)
 |_,_, .nil=> .nil
 |_,_, .cons(c:=c)h r=>by
  match c with
  |0=>exact r.dec
  |1=>exact r.dec
  |c+2=>exact .cons h r.dec
theorem lV.fresh{d:Option Nat}{f:Fr}: ∀{l:List Ob}{ms:List VY},lV f l ms→Oq d l=true→PN d ms=true
 |_,_, .nil,_=>rfl
 |_,_, .cons h r,e=>by
  simp only[Oq,Bool.and_eq_true]at e
  simp only[PN,Bool.and_eq_true]
  refine⟨?_,r.fresh e.2⟩
  cases d with
  |none=>rfl
  |some d=>have:=e.1;simp only[Bool.and_eq_true]at this;exact this.1
theorem lV.put{d:Option Nat}{f:Fr}{w:AV}: ∀{l:List Ob}{ms:List VY},lV f l ms→Oq d l=true→lV(put f d w)l ms
 |_,_, .nil,_=> .nil
 |_,_, .cons h r,e=>by
  simp only[Oq,Bool.and_eq_true]at e
  refine .cons ?_(r.put e.2)
  cases d with
  |none=>exact h
  |some d=>
   have:=e.1
   simp only[Bool.and_eq_true,Bool.not_eq_true']at this
   simp only[Am.put,get]
   rw[if_neg fun e=>by rw[e,Nat.beq_refl]at this;cases this.2]
   exact h
theorem VX.spec{tb:CZ}{Γ:Cx}{E:Pr}{rv:Nat→AV}{fp:Fp}{f:Fr}{H:Av}(I:Bp E Γ rv fp f H): ∀{l:List Ob}{ms:List VY},VX tb Γ l→lV f l ms→ ∀m∈ms,0<m.c→Bq tb(Ck tb)(eval tb f)H(.ld m.ag m.n(.t m.t))=some(m.v,none)
 |_,_, .nil, .nil,m,hm,_=>by cases hm
 |_,_, .cons h hd hu r, .cons h' r',m,hm,hc=>by
  rcases List.mem_cons.1 hm with rfl|hm
  ·obtain⟨v,u,h1,h2,h3⟩:=h E rv fp f H I()rfl
   have:=hu.eq h3(hd E rv fp f H I)
   subst this
   rw[h1]
   have:u=none:=GE(p:=(_,u))h1
   rw[this,←h'];rfl
  ·exact VX.spec I r r' m hm hc
structure Cb where
 ag:Bool
 n:Nat
 t:Nat
 off:Nat
 lo:Nat
 u:T
 x:u.α
def RI(d:Option Nat):List Cb→Bool
 |[]=>true
 |m::r=>(match d with|some d=> !Nat.beq d m.t|none=>true)&&RI d r
inductive CR(f:Fr):List Cb→List vA→Prop where
 |nil:CR f [] []
 |cons{ag:Bool}{n t off lo id o:Nat}{u:T}{x:u.α}{v a:AV}{l:List Cb}{es:List vA}{P:Nat→Prop}{H:Av}(h0:get f t= .ptr id o)(ha:a= .ptr id(o+off))(h:u.V P H v x)(r:CR f l es):
   CR f(⟨ag,n,t,off,lo,u,x⟩::l)(⟨ag,n,a,v,lo⟩::es)
theorem CR.put{d:Option Nat}{f:Fr}{w:AV}: ∀{l:List Cb}{es:List vA},CR f l es→RI d l=true→CR(put f d w)l es
 |_,_, .nil,_=> .nil
 |_,_, .cons h0 ha h r,e=>by
  simp only[RI,Bool.and_eq_true]at e
  refine .cons ?_ ha h(r.put e.2)
  cases d with
  |none=>exact h0
  |some d=>
   have:=e.1
   simp only[Bool.not_eq_true']at this
   simp only[Am.put,get]
   rw[if_neg fun e=>by rw[e,Nat.beq_refl]at this;cases this]
   exact h0
theorem CR.find{f:Fr}: ∀{l:List Cb}{es:List vA}{i:Nat}{c:Cb},CR f l es→l[i]? =some c→ ∃e∈es,e.ag=c.ag∧e.n=c.n∧e.lo=c.lo∧(∃id o,get f c.t= .ptr id o∧e.a= .ptr id(o+c.off))∧ ∃P H,c.u.V P H e.v c.x
 |_,_,i,c, .nil,h=>by simp at h
 |_,_,0,c, .cons h0 ha h r,hc=>by
  simp only[List.getElem?_cons_zero,Option.some.injEq]at hc
  subst hc
  exact⟨_,List.mem_cons_self,rfl,rfl,rfl,⟨_,_,h0,ha⟩,_,_,h⟩
 |_,_,i+1,c, .cons h0 ha h r,hc=>by
  simp only[List.getElem?_cons_succ]at hc
  obtain⟨e,he,g⟩:=r.find hc
  exact⟨e,List.mem_cons_of_mem _ he,g⟩
def VZ(Γ:Cx)(c:Cb):Prop:= ∃j o ps N s y o',BD Γ.ts c.t=some(.cp j o)∧AG Γ.ss j=some(.cells ps)∧Js ps(o+c.off)=some(N, .val s y,o')∧ ∃F:AM s c.u o',F.get y=c.x∧c.ag=c.u.agg∧c.n=c.u.sz
theorem NF{Γ:Cx}{ag:Bool}{n t off lo j o N o':Nat}{ps:List(Nat×AL)}{s u:T}{y:s.α}(F:AM s u o')(h1:BD Γ.ts t=some(.cp j o))(h2:AG Γ.ss j=some(.cells ps))(h3:Js ps(o+off)=some(N, .val s y,o'))(h4:ag=u.agg)(h5:n=u.sz):VZ Γ⟨ag,n,t,off,lo,u,F.get y⟩:=
 ⟨j,o,ps,N,s,y,o',h1,h2,h3,F,rfl,h4,h5⟩
theorem VZ.spec{Γ:Cx}{c:Cb}{E:Pr}{rv:Nat→AV}{fp:Fp}{f:Fr}{H:Av}(h:VZ Γ c)(R:Bp E Γ rv fp f H): ∃id o v,get f c.t= .ptr id o∧load H c.ag c.n(.ptr id(o+c.off))=some v∧c.u.V(Pf E Γ.ss fp H)H v c.x:=by
 obtain⟨j,o,ps,N,s,y,o',h1,hj,hp,F,hx,hag,hn⟩:=h
 obtain⟨l,id,e,hv⟩:=R.temps _ _ h1
 obtain⟨cs,h0,h2,h3⟩:=Gc R hj e
 obtain⟨b',c',e0,e1,e2,e3,e4,e5,_⟩:=FH h3 hp
 have hle:=F.le
 have hl:=s.len e4
 have hr:=F.getR e4
 rw[←e5 o' c.u.sz(by omega),←e1]at hr
 obtain⟨v,g1,g2⟩:=T.V.of hr
 refine⟨id,o,v,hv,?_,by rw[←hx];exact g2⟩
 rw[hag,hn]
 simp only[Am.load,place,h2,Option.map_some,Option.bind_some,if_pos(show o+c.off+c.u.sz≤cs.length by omega),g1]
inductive Kd(Γ:Cx)(k:Nat)(C:List Cb):List Cb→Prop where
 |nil:Kd Γ k C []
 |new{c:Cb}{l:List Cb}(hk:c.lo=k)(h:VZ Γ c)(r:Kd Γ k C l):Kd Γ k C(c::l)
 |old{c:Cb}{l:List Cb}(i:Nat)(hi:C[i]? =some c)(hu:c.u.Uni)(h:VZ Γ c)(r:Kd Γ k C l):Kd Γ k C(c::l)
theorem Kd.spec{Γ:Cx}{k:Nat}{C:List Cb}{es:List vA}{E:Pr}{rv:Nat→AV}{fp:Fp}{f:Fr}{H:Av}(R:Bp E Γ rv fp f H)(hC:CR f C es): ∀{l:List Cb},Kd Γ k C l→ ∃es',CR f l es'∧ ∀e∈es',(e∈es∨e.lo=k)∧load H e.ag e.n e.a=some e.v
 |_, .nil=>⟨[], .nil,fun _ h=>by cases h⟩
 |_, .new(c:=c)hk h r=>by
  obtain⟨es',h1,h2⟩:=r.spec R hC
  obtain⟨id,o,v,g1,g2,g3⟩:=h.spec R
  refine⟨⟨c.ag,c.n, .ptr id(o+c.off),v,c.lo⟩::es', .cons g1 rfl g3 h1,fun e he=> ?_⟩
  rcases List.mem_cons.1 he with rfl|he
  ·exact⟨.inr hk,g2⟩
  ·exact h2 e he
 |_, .old(c:=c)i hi hu h r=>by
  obtain⟨es',h1,h2⟩:=r.spec R hC
  obtain⟨id,o,v,g1,g2,g3⟩:=h.spec R
  obtain⟨e,he,e1,e2,e3,⟨id',o',e4,e5⟩,P,H',e6⟩:=hC.find hi
  have hv:v=e.v:=hu.V g3 e6
  rw[g1]at e4
  cases e4
  refine⟨⟨c.ag,c.n, .ptr id(o+c.off),v,c.lo⟩::es', .cons g1 rfl g3 h1,fun x hx=> ?_⟩
  rcases List.mem_cons.1 hx with rfl|hx
  ·refine⟨.inl ?_,g2⟩
   obtain⟨ag,n,a,v',lo⟩:=e
   simp only at e1 e2 e3 e5 hv
   subst e1 e2 e3 e5 hv
   exact he
  ·exact h2 x hx
structure A9(tb:CZ)(Γ:Cx)(N k:Nat)(B:List Ob)(C:List Cb)(l:List AU)(w:List(Option(Nat×Nat)))(ks:List Kf){ρ:Type}(Q:Mb ρ)where
 m:Option ρ
 ok: ∀E f H,fC E Γ f H→ ∀ms,lV f B ms→ ∀es,CR f C es→ ∀r,m=some r→ ∃p e f' H',Gw tb(Ck tb)N k ms es l w f H p∧IB tb ks(.normal,p.1,p.2)=some(e,f',H')∧Q E r e f' H'
section
variable {tb:CZ}{Γ:Cx}{ks:List Kf}{ρ:Type}{Q:Mb ρ}{w:List(Option(Nat×Nat))}{N k:Nat}{B:List Ob}{C C':List Cb}
def Aa.regd{l:List AU}(n:Nat)(s:A9 tb Γ n 0 [] []l w ks Q):Aa tb Γ(.regd l w)ks Q:=
 ⟨s.m,fun E f H R r hr=>by
  obtain⟨p,e,f',H',h1,h2,h3⟩:=s.ok E f H R [] .nil [] .nil r hr
  exact⟨e,f',H',by rw[aE h1];exact h2,h3⟩⟩
def CD(s:Aa tb Γ(rg false [])ks Q):A9 tb Γ N N B C [] []ks Q:=
 ⟨s.m,fun E f H R ms _ es _ r hr=>by
  obtain⟨e,f',H',h1,h2⟩:=s.ok E f H R r hr
  rw[Dy]at h1
  exact⟨(f,H),e,f',H',⟨rfl,rfl⟩,h1,h2⟩⟩
def A9.turn{l:List AU}{Γ':Cx}(h: ∀E f H,fC E Γ f H→fC E Γ' f H)(s:A9 tb Γ' N k B C l w ks Q):A9 tb Γ N k B C l w ks Q:=
 ⟨s.m,fun E f H R ms hms es hes r hr=>s.ok E f H(h E f H R)ms hms es hes r hr⟩
def A9.frzRow{l:List AU}(j:Nat){t:T}{g:GS t.α}(h:AG Γ.ss j=some(.row t g))(hn:Nat.blt j cT=true)(s:A9 tb(Γ.turn j(wA t g))N k B C l w ks Q):A9 tb Γ N k B C l w ks Q:=
 s.turn fun _ _ _⟨rv,fp,I⟩=>⟨rv,fp,I.frzRow h hn⟩
variable {o:HT}{l:List AU}{y:Nat×Nat}
def Zl(N k:Nat)(B:List Ob)(C:List Cb)(y:Nat×Nat)(d:Option Nat)(o:HT):Bool:=R7 N k y.1 y.2 o&&(Oq d B&&RI d C)
theorem vJ{cl:Nat→List AV→Av→KH}{d:Option Nat}{ms:List VY}{es:List vA}{f:Fr}{H:Av}{v:AV}{u:Option Av}{p:Fr×Av}(hq:Zl N k B C y d o=true)(hms:lV f B ms)(h1:Bq tb cl(eval tb f)H o=some(v,u))(h2:u.getD H=H)
  (g:Gw tb cl N k ms es l w(put f d v)H p):Gw tb cl N k ms es(⟨d,none,o⟩::l)(some y::w)f H p:=by
 obtain⟨lo,hi⟩:=y
 simp only[Zl,Bool.and_eq_true]at hq
 refine .inl⟨rfl,(v,u),h1,h2,hms.fresh hq.2.1, .inl⟨by rw[hq.1];rfl,?_⟩⟩
 simp only[oY,hq.1,cond_true]
 exact g
theorem XS{d:Option Nat}(hq:Zl N k B C y d o=true):Oq d B=true∧RI d C=true:=by
 simp only[Zl,Bool.and_eq_true]at hq;exact hq.2
def lJ(B:List Ob)(C':List Cb)(d:Option Nat):Bool:=Oq d B&&RI d C'
theorem stepW{Γ':Cx}{E:Pr}{rv rv':Nat→AV}{fp fp':Fp}{d:Option Nat}{ms:List VY}{es:List vA}{f:Fr}{H:Av}{v:AV}{u:Option Av}(hq:lJ B C' d=true)(hb:VX tb Γ' B)(hc:Kd Γ k C C')(hms:lV f B ms)(hes:CR f C es)(I0:Bp E Γ rv fp f H)(h1:Bq tb(Ck tb)(eval tb f)H o=some(v,u))(I:Bp E Γ' rv' fp'(put f d v)(u.getD H)):
  ∃es',CR(put f d v)C' es'∧ ∀p,Gw tb(Ck tb)N(k+1)(eN ms)es' l w(put f d v)(u.getD H)p→Gw tb(Ck tb)N k ms es(⟨d,none,o⟩::l)(none::w)f H p:=by
 simp only[lJ,Bool.and_eq_true]at hq
 obtain⟨es',g1,g2⟩:=hc.spec I0 hes
 exact⟨es',g1.put hq.2,fun p g=> .inl⟨rfl,(v,u),es',h1,hms.fresh hq.1,hb.spec I(hms.put hq.1),g2,g⟩⟩
def A9.op{d:Nat}{β:Type}{a:Option β}{φ:β→AL}(hq:Zl N k B C y(some d)o=true)(h:F1 tb Γ o a φ)(s:(b:β)→A9 tb(Γ.push d(φ b))N k B C l w ks Q):A9 tb Γ N k B C(⟨some d,none,o⟩::l)(some y::w)ks Q:=
 ⟨a.bind fun b=>(s b).m,fun E f H⟨rv,fp,I⟩ms hms es hes r hr=>by
  obtain⟨b,hb,hr⟩:=Option.bind_eq_some_iff.1 hr
  obtain⟨v,u,h1,h2,h3⟩:=h E rv fp f H I b hb
  obtain⟨p,e,f',H',g,g'⟩:=(s b).ok E(put f(some d)v)H⟨rv,fp,I.push h3⟩ms(hms.put(XS hq).1)es(hes.put(XS hq).2)r hr
  exact⟨p,e,f',H',vJ hq hms h1 h2 g,g'⟩⟩
def A8{d:Nat}{φ:AL}(hq:Zl N k B C y(some d)o=true)(h:F1 tb Γ o(some())fun _=>φ)(s:A9 tb(Γ.push d φ)N k B C l w ks Q):A9 tb Γ N k B C(⟨some d,none,o⟩::l)(some y::w)ks Q:=
 ⟨s.m,(A9.op hq h fun _=>s).ok⟩
def DP{d:Nat}{t:T}{x:t.α}(hq:Zl N k B C y(some d)o=true)(h:F1 tb Γ o(some())fun _=> .val t x)(s:(y:t.α)→A9 tb(Γ.push d(.val t y))N k B C l w ks Q):A9 tb Γ N k B C(⟨some d,none,o⟩::l)(some y::w)ks Q:=
 A8 hq h(s x)
def FM{d n t lo hi t0 off lo0:Nat}{ag:Bool}{u:T}{x:u.α}(i:Nat){j o o0:Nat}(hi0:C[i]? =some⟨ag,n,t0,off,lo0,u,x⟩)(ht:BD Γ.ts t=some(.cp j o))(ht0:BD Γ.ts t0=some(.cp j o0))(ho:o=o0+off)
  (hq:(Nat.beq hi k&&(Nat.ble lo0 lo&&(Oq(some d)B&&RI(some d)C)))=true)(hu:u.Uni)(h:F1 tb Γ(.ld ag n(.t t))(some())fun _=> .val u x)
  (s:A9 tb(Γ.push d(.val u x))N k B C l w ks Q):A9 tb Γ N k B C(⟨some d,none, .ld ag n(.t t)⟩::l)(some(lo,hi)::w)ks Q:=
 ⟨s.m,fun E f H⟨rv,fp,I⟩ms hms es hes r hr=>by
  obtain⟨v,u',h1,h2,h3⟩:=h E rv fp f H I()rfl
  simp only[Bool.and_eq_true]at hq
  obtain⟨p,e,f',H',h4,h5⟩:=s.ok E(put f(some d)v)H⟨rv,fp,I.push h3⟩ms(hms.put hq.2.2.1)es(hes.put hq.2.2.2)r hr
  obtain⟨x',hx,e1,e2,e3,⟨id,o',e4,e5⟩,P,H0,e6⟩:=hes.find hi0
  have hv:v=x'.v:=hu.V h3 e6
  obtain⟨_,id1,g1,g2⟩:=I.temps _ _ ht
  obtain⟨_,id2,g3,g4⟩:=I.temps _ _ ht0
  rw[g1]at g3;cases g3
  have e4':get f t0= .ptr id o':=e4
  rw[g4]at e4';cases e4'
  refine⟨p,e,f',H', .inl⟨rfl,(v,u'),h1,h2,hms.fresh hq.2.2.1, .inr⟨Nat.eq_of_beq_eq_true hq.1,⟨x',hx,t,?_,?_,hv,?_⟩,h4⟩⟩,h5⟩
  ·rw[e1,e2]
  ·rw[g2,e5,ho]
  ·have e3':x'.lo=lo0:=e3
   rw[e3'];exact Nat.le_of_ble_eq_true hq.2.1⟩
def DF{d:Option Nat}{β:Type}{a:Option β}{Γ':β→Cx}(hq:lJ B C' d=true)(hb: ∀b,VX tb(Γ' b)B)(hc:Kd Γ k C C')(h:Wp tb Γ d o a Γ')(s:(b:β)→A9 tb(Γ' b)N(k+1)(eO B)C' l w ks Q):A9 tb Γ N k B C(⟨d,none,o⟩::l)(none::w)ks Q:=
 ⟨a.bind fun b=>(s b).m,fun E f H⟨rv,fp,I⟩ms hms es hes r hr=>by
  obtain⟨b,hb',hr⟩:=Option.bind_eq_some_iff.1 hr
  obtain⟨v,u,h1,rv',fp',h3⟩:=h E rv fp f H I b hb'
  obtain⟨es',g1,g2⟩:=stepW(l:=l)(w:=w)(N:=N)hq(hb b)hc hms hes I h1 h3
  have hq':=hq;simp only[lJ,Bool.and_eq_true]at hq'
  obtain⟨p,e,f',H',g,g'⟩:=(s b).ok E _ _⟨rv',fp',h3⟩_(hms.put hq'.1).dec _ g1 r hr
  exact⟨p,e,f',H',g2 p g,g'⟩⟩
def SimDW.op{d:Nat}{β:Type}{a:Option β}{φ:β→AL}(hq:lJ B C'(some d)=true)(hb: ∀b,VX tb(Γ.push d(φ b))B)(hc:Kd Γ k C C')(h:F1 tb Γ o a φ)(s:(b:β)→A9 tb(Γ.push d(φ b))N(k+1)(eO B)C' l w ks Q):A9 tb Γ N k B C(⟨some d,none,o⟩::l)(none::w)ks Q:=
 DF hq hb hc(a:=a)(Γ':=fun b=>Γ.push d(φ b))(fun E rv fp f H I b hb'=>by
  obtain⟨v,u,h1,h2,h3⟩:=h E rv fp f H I b hb'
  exact⟨v,u,h1,rv,fp,by rw[h2];exact I.push h3⟩)s
end
end Go.Proofs.YtobejhpigbllpaaGreatDoor.Am
namespace Go.Proofs.YtobejhpigbllpaaGreatDoor.Am
def MW(tB nne:Nat):CM:=⟨false,1,20,[],
 (.seq(rg false [⟨some 2,none, .mv(.t 0)⟩,⟨some 3,none, .nilc(.t 2)⟩,⟨some 4,none, .fa 0(.t 3)⟩,⟨some 5,none, .ld false 1(.t 4)⟩,⟨some 6,none, .eq false .p(.t 5)(.k(.nilp))⟩])
 (.cond(.t 6)
  (rg false [⟨some 7,none, .mv(.t 0)⟩,⟨some 8,none, .mv(.t 0)⟩,⟨some 9,none, .cvp(.t 8)⟩,⟨some 10,none, .call nne [(.t 9)]⟩,⟨some 11,none, .cvu tB 2(.t 10)⟩,⟨some 12,none, .nilc(.t 7)⟩,⟨some 13,none, .fa 0(.t 12)⟩,⟨none,none, .st 1(.t 13)(.t 11)⟩])
  (.seq(rg false [⟨some 14,none, .mv(.t 0)⟩,⟨some 15,none, .nilc(.t 14)⟩,⟨some 16,none, .fa 0(.t 15)⟩,⟨some 17,none, .ld false 1(.t 16)⟩,⟨some 18,none, .mv(.t 0)⟩,⟨some 19,none, .eqp true(.t 17)(.t 18)⟩])
  (.cond(.t 19)
  .stop
  .skip))))⟩
def Ws(te ncc:Nat):CM:=⟨false,2,19,[.tmp 4, .tmp 5],
 (.seq(rg false [⟨some 4,none, .mv(.k(.i .i64 0))⟩,⟨some 5,none, .mv(.k(.nili))⟩])
 (.seq(rg false [⟨some 6,none, .mv(.t 0)⟩,⟨some 7,none, .call ncc [(.t 6)]⟩])
 (.seq(rg false [⟨some 8,none, .mv(.t 0)⟩,⟨some 9,none, .mv(.t 0)⟩,⟨some 10,none, .nilc(.t 9)⟩,⟨some 11,none, .fa 1(.t 10)⟩,⟨some 12,none, .ld false 1(.t 11)⟩,⟨some 13,none, .mv(.t 1)⟩,⟨some 14,none, .app te 1 1(.t 12)(.t 13)⟩,⟨some 15,none, .nilc(.t 8)⟩,⟨some 16,none, .fa 1(.t 15)⟩,⟨none,none, .st 1(.t 16)(.t 14)⟩])
 (.seq(rg false [⟨some 17,none, .mv(.t 1)⟩,⟨some 18,none, .lens(.t 17)⟩,⟨some 4,none, .mv(.t 18)⟩,⟨some 5,none, .mv(.k(.nili))⟩])
 .ret))))⟩
def Wu(te ncc:Nat):CM:=⟨false,2,17,[.tmp 4],
 (.seq(rg false [⟨some 4,none, .mv(.k(.nili))⟩])
 (.seq(rg false [⟨some 5,none, .mv(.t 0)⟩,⟨some 6,none, .call ncc [(.t 5)]⟩])
 (.seq(rg false [⟨some 7,none, .mv(.t 0)⟩,⟨some 8,none, .mv(.t 0)⟩,⟨some 9,none, .nilc(.t 8)⟩,⟨some 10,none, .fa 1(.t 9)⟩,⟨some 11,none, .ld false 1(.t 10)⟩,⟨some 12,none, .mv(.t 1)⟩,⟨some 13,none, .bll 1(List.replicate 1 T.u8.zc) [(0,(.t 12))]⟩,⟨some 14,none, .app te 1 1(.t 11)(.t 13)⟩,⟨some 15,none, .nilc(.t 7)⟩,⟨some 16,none, .fa 1(.t 15)⟩,⟨none,none, .st 1(.t 16)(.t 14)⟩])
 (.seq(rg false [⟨some 4,none, .mv(.k(.nili))⟩])
 .ret))))⟩
def RQ(te:Nat):CM:=⟨false,1,14,[.tmp 2],
 (.seq(rg false [⟨some 2,none, .mv(.k(.s []))⟩])
 (.seq(.regd [⟨some 3,none, .mv(.t 0)⟩,⟨some 4,none, .nilc(.t 3)⟩,⟨some 5,none, .fa 1(.t 4)⟩,⟨some 6,none, .ld false 1(.t 5)⟩,⟨some 7,none, .usd(.t 6)⟩,⟨some 8,none, .mv(.t 0)⟩,⟨some 9,none, .nilc(.t 8)⟩,⟨some 10,none, .fa 1(.t 9)⟩,⟨some 11,none, .ld false 1(.t 10)⟩,⟨some 12,none, .len(.t 11)⟩,⟨some 13,none, .ust te(.t 7)(.t 12)⟩,⟨some 2,none, .mv(.t 13)⟩] [some(0,0),some(0,0),some(0,0),some(0,0),some(0,0),some(0,0),some(0,0),some(0,0),some(0,0),some(0,0),none,some(1,1)])
 .ret))⟩
section
variable {tb:CZ}{tB te ncc nne nws nwb nbs:Nat}{h:Av}{id:Nat}{a b:AV}
theorem G9{cs:List AV}{l:Option Nat}(hh:h[id]? =some(.cells l cs)):BZ h id=some cs∧Eo h id=l:=⟨by simp only[BZ,hh],by simp only[Eo,hh]⟩
theorem gS{els:List(List AV)}{l:Option Nat}{fz:Bool}{sz:Nat}(hh:h[id]? =some(.row l fz sz els)):rowAt h id=some(fz,sz,els)∧Eo h id=l:=⟨by simp only[rowAt,hh],by simp only[Eo,hh]⟩
theorem LK(fn:Bool)(n:Nat)(h:Av)(hn:h.length=n)(vs:List AV)(hv:Bh vs=0): ∃u,WY fn n h vs=(Gv vs,some u)∧u=h:=by
 have h1:dW h n vs=some vs:=by
  unfold dW
  exact Od(by omega)
 have h2:h.take n=h:=by rw[←hn];exact List.take_length
 cases fn
 ·simp only[WY,Xk,h1,h2]
  split<;>exact⟨_,rfl,rfl⟩
 ·exact⟨_,rfl,rfl⟩
theorem TR(n:Nat)(h:Av)(hn: ¬CE(h.take n)≤n)(vs:List AV)(hv:Bh vs=0)(fn:Bool):WY fn n h vs=(Gv vs,some h):=by
 have h1:dW h n vs=some vs:=by
  unfold dW
  exact Od(by omega)
 cases fn
 ·simp only[WY,Xk,h1,if_neg hn]
 ·rfl
theorem Wl(hf:tb.prim ncc=none∧tb.fns ncc=some(MW tB nne))(hne:tb.prim nne=some OU)(hh:h[id]? =some(.cells(some tB) [a,b]))(ha:a= .nilp∨a= .ptr id 0):
  B3 tb(Ck tb)h ncc [.ptr id 0]=some(.tup [],some(h.set id(.cells(some tB) [.ptr id 0,b]))):=by
 obtain⟨hc,hl⟩:=G9 hh
 have hid:=(List.getElem?_eq_some_iff.1 hh).1
 simp only[B3,hf.1]
 rw[PS,hf.2]
 rcases ha with rfl|rfl
 ·obtain⟨u,hu,rfl⟩:=LK false h.length(h.set id(.cells(some tB) [.ptr id 0,b]))(by simp) []rfl
  simp[body,MW,AX,rg,ops,wanted,Bq,eval,get,put,val,load,place,shift,hc,hl,Hu,sub,XL,B3,hne,OU,store,cellsOf,By,results,hu,Gv]
 ·have hs:h.set id(.cells(some tB) [.ptr id 0,b])=h:=by
   apply List.ext_getElem?
   intro j
   rw[List.getElem?_set]
   split
   ·rename_i hj;subst hj;exact hh.symm
   ·rfl
  obtain⟨u,hu,rfl⟩:=LK false h.length h rfl []rfl
  simp[body,MW,AX,rg,ops,wanted,Bq,eval,get,put,val,load,place,shift,hc,Hu,sub,XL,results,hu,Gv,hs]
theorem KG(s:AN):(Bw s).length=s.length:=by simp[Bw]
theorem lK(s t:AN):Bw(s++t)=Bw s++Bw t:=by simp[Bw]
theorem gN{h:Av}{o:BH}(hh:h[id]? =some o):h.set id o=h:=by
 apply List.ext_getElem?
 intro j
 rw[List.getElem?_set]
 split
 ·rename_i hj;subst hj
  split
  ·exact hh.symm
  ·rename_i hn;exact absurd(List.getElem?_eq_some_iff.1 hh).1 hn
 ·rfl
inductive Yt(tB te:Nat)(h:Av)(id:Nat)(s:AN):Av→Prop where
 |none{a:AV}(hh:h[id]? =some(.cells(some tB) [a, .nils]))(ha:a= .nilp∨a= .ptr id 0)(hs:s=[]):Yt tB te h id s(h.set id(.cells(some tB) [.ptr id 0, .nils]))
 |first{a:AV}(hh:h[id]? =some(.cells(some tB) [a, .nils]))(ha:a= .nilp∨a= .ptr id 0)(hs:s≠[])(hm:s.length≤Bf):
  Yt tB te h id s(h.set id(.cells(some tB) [.ptr id 0, .orow h.length s.length 0 s.length])++[.row(some te)false 1(Bw s)])
 |more{r:Nat}{l:AN}(hh:h[id]? =some(.cells(some tB) [.ptr id 0, .orow r l.length 0 l.length]))(hr:h[r]? =some(.row(some te)false 1(Bw l)))(hne:r≠id)(hm:l.length+s.length≤Bf):
  Yt tB te h id s((h.set r(.row(some te)false 1(Bw(l++s)))).set id(.cells(some tB) [.ptr id 0, .orow r(l++s).length 0(l++s).length]))
theorem aO{s:AN}{G:Av}(hid:id<h.length)(hG:G=h.set id(.cells(some tB) [.ptr id 0, .orow h.length s.length 0 s.length])++[.row(some te)false 1(Bw s)]): ¬CE(G.take h.length)≤h.length:=by
 have h1:G.take h.length=h.set id(.cells(some tB) [.ptr id 0, .orow h.length s.length 0 s.length]):=by
  rw[hG];exact List.take_left'(by simp)
 rw[h1]
 have key: ∀(h:Av)(id:Nat)(o:BH)(m:Nat),id<h.length→m<En o→m<CE(h.set id o):=by
  intro h
  induction h with
  |nil=>intro id o m hi;simp at hi
  |cons x h ih=>
   intro id o m hi ho
   cases id with
   |zero=>simp only[List.set_cons_zero,CE];omega
   |succ id=>simp only[List.set_cons_succ,CE];have:=ih id o m(by simpa using hi)ho;omega
 have:=key h id(.cells(some tB) [.ptr id 0, .orow h.length s.length 0 s.length])h.length hid(by simp only[En,Bh,B9];omega)
 omega
theorem Nb{d:Option Nat}{o:HT}{l:List AU}{f:Fr}{v:AV}{u:Option Av}{r:Option(Fr×Av)}(e:Bq tb(Ck tb)(eval tb f)h o=some(v,u))(k:ops tb(Ck tb)l(put f d v)(u.getD h)=r):ops tb(Ck tb)(⟨d,none,o⟩::l)f h=r:=by
 simp[ops,wanted,e,k]
theorem Jl{l:List AU}{y:AC}{f f':Fr}{h':Av}(e:ops tb(Ck tb)l f h=some(f',h')):AX tb(Ck tb)(.seq(rg false l)y)f h=AX tb(Ck tb)y f' h':=by
 simp[AX,rg,e]
theorem vK{N j:Nat}{d:Option Nat}{o:HT}{l:List AU}{w:List(Option(Nat×Nat))}{y:Nat×Nat}{f:Fr}{v:AV}{p:Fr×Av}(e:Bq tb(Ck tb)(eval tb f)h o=some(v,none))(k:Gw tb(Ck tb)N j [] []l w(put f d v)h p)(hq:R7 N j y.1 y.2 o=true:=by rfl):Gw tb(Ck tb)N j [] [](⟨d,none,o⟩::l)(some y::w)f h p:=by
 obtain⟨lo,hi⟩:=y
 refine .inl⟨rfl,(v,none),e,rfl,rfl, .inl⟨by rw[hq];rfl,?_⟩⟩
 simp only[oY,hq,cond_true]
 exact k
theorem stW{N j:Nat}{d:Option Nat}{o:HT}{l:List AU}{w:List(Option(Nat×Nat))}{f:Fr}{v:AV}{u:Option Av}{p:Fr×Av}(e:Bq tb(Ck tb)(eval tb f)h o=some(v,u))(k:Gw tb(Ck tb)N(j+1) [] []l w(put f d v)(u.getD h)p):Gw tb(Ck tb)N j [] [](⟨d,none,o⟩::l)(none::w)f h p:=
 .inl⟨rfl,(v,u),[],e,rfl,(fun _ hm=>absurd hm(by simp)),(fun _ hx=>absurd hx(by simp)),k⟩
theorem stE{N:Nat}{f:Fr}:Gw tb(Ck tb)N N [] [] [] []f h(f,h):=⟨rfl,rfl⟩
theorem pQ{x y:AC}{f f':Fr}{h':Av}(e:AX tb(Ck tb)x f h=some(.normal,f',h')):AX tb(Ck tb)(.seq x y)f h=AX tb(Ck tb)y f' h':=by
 simp[AX,e]
theorem aP{cl:Nat→List AV→Av→KH}{rho:AO→AV}{x:AO}{ag:Bool}{n:Nat}{v:AV}(e:load h ag n(rho x)=some v):Bq tb cl rho h(.ld ag n x)=some(v,none):=by simp[Bq,e,val]
theorem AaH{cl:Nat→List AV→Av→KH}{rho:AO→AV}{s x:AO}{t sz b:Nat}{new:List(List AV)}{r:AV×Option Av}(e:iB h sz(rho x)=some new)(e':U1 h t sz b(rho s)new=some r):Bq tb cl rho h(.app t sz b s x)=some r:=by simp[Bq,e,e']
theorem ap_st{cl:Nat→List AV→Av→KH}{rho:AO→AV}{a x:AO}{n:Nat}{G:Av}(e:store h n(rho a)(rho x)=some G):Bq tb cl rho h(.st n a x)=some(.junk,some G):=by simp[Bq,e]
theorem ap_len{cl:Nat→List AV→Av→KH}{rho:AO→AV}{x:AO}{n:Nat}(e:PG(rho x)=some n):Bq tb cl rho h(.len x)=some(.i .i64 n,none):=by simp[Bq,e]
theorem Wm{rho:AO→AV}{g:Nat}{xs:List AO}{r:AV×Option Av}(e:B3 tb(Ck tb)h g(xs.map rho)=some r):Bq tb(Ck tb)rho h(.call g xs)=some r:=by simp only[Bq];exact e
theorem ws_run{s:AN}{h1 G:Av}{bv bv':AV}{u2:Option Av}(hc:B3 tb(Ck tb)h ncc [.ptr id 0]=some(.tup [],some h1))(hld:load h1 false 1(.ptr id 1)=some bv)(hap:U1 h1 te 1 1 bv(Bw s)=some(bv',u2))(hst:store(u2.getD h1)1(.ptr id 1)bv'=some G):
  ∃f',AX tb(Ck tb)(Ws te ncc).body [(0, .ptr id 0),(1, .s s)]h=some(.ret,f',G)∧results f' G [.tmp 4, .tmp 5]=some [.i .i64 s.length, .nili]:=by
 apply Exists.intro
 apply And.intro
 ·unfold Ws
  simp only
  refine(Jl(Nb(v:= .i .i64 0)(u:=none)rfl(Nb(v:= .nili)(u:=none)rfl rfl))).trans ?_
  refine(Jl(Nb(v:= .ptr id 0)(u:=none)rfl(Nb(v:= .tup [])(u:=some h1)(Wm(by exact hc))rfl))).trans ?_
  refine(Jl(Nb(v:= .ptr id 0)(u:=none)rfl(Nb(v:= .ptr id 0)(u:=none)rfl(Nb(v:= .ptr id 0)(u:=none)rfl(Nb(v:= .ptr id 1)(u:=none)rfl(Nb(v:=bv)(u:=none)(aP(by exact hld))
   (Nb(v:= .s s)(u:=none)rfl(Nb(v:=bv')(u:=u2)(AaH(new:=Bw s)rfl(by exact hap))(Nb(v:= .ptr id 0)(u:=none)rfl(Nb(v:= .ptr id 1)(u:=none)rfl
   (Nb(v:= .junk)(u:=some G)(ap_st(by exact hst))rfl))))))))))).trans ?_
  refine(Jl(Nb(v:= .s s)(u:=none)rfl(Nb(v:= .i .i64 s.length)(u:=none)rfl(Nb(v:= .i .i64 s.length)(u:=none)rfl(Nb(v:= .nili)(u:=none)rfl rfl))))).trans ?_
  rfl
 ·rfl
theorem wb_run{c:UInt8}{h1 G:Av}{bv bv':AV}{u2:Option Av}(hc:B3 tb(Ck tb)h ncc [.ptr id 0]=some(.tup [],some h1))(hld:load h1 false 1(.ptr id 1)=some bv)(hap:U1 h1 te 1 1 bv(Bw [c])=some(bv',u2))(hst:store(u2.getD h1)1(.ptr id 1)bv'=some G):
  ∃f',AX tb(Ck tb)(Wu te ncc).body [(0, .ptr id 0),(1, .i .u8 c.toNat)]h=some(.ret,f',G)∧results f' G [.tmp 4]=some [.nili]:=by
 apply Exists.intro
 apply And.intro
 ·unfold Wu
  simp only
  refine(Jl(Nb(v:= .nili)(u:=none)rfl rfl)).trans ?_
  refine(Jl(Nb(v:= .ptr id 0)(u:=none)rfl(Nb(v:= .tup [])(u:=some h1)(Wm(by exact hc))rfl))).trans ?_
  refine(Jl(Nb(v:= .ptr id 0)(u:=none)rfl(Nb(v:= .ptr id 0)(u:=none)rfl(Nb(v:= .ptr id 0)(u:=none)rfl(Nb(v:= .ptr id 1)(u:=none)rfl(Nb(v:=bv)(u:=none)(aP(by exact hld))
   (Nb(v:= .i .u8 c.toNat)(u:=none)rfl(Nb(v:= .sl 1(Bw [c]))(u:=none)rfl(Nb(v:=bv')(u:=u2)(AaH(new:=Bw [c])rfl(by exact hap))(Nb(v:= .ptr id 0)(u:=none)rfl(Nb(v:= .ptr id 1)(u:=none)rfl
   (Nb(v:= .junk)(u:=some G)(ap_st(by exact hst))rfl)))))))))))).trans ?_
  refine(Jl(Nb(v:= .nili)(u:=none)rfl rfl)).trans ?_
  rfl
 ·rfl
theorem X1(hcc:tb.prim ncc=none∧tb.fns ncc=some(MW tB nne))(hne:tb.prim nne=some OU){s:AN}{G:Av}(hg:Yt tB te h id s G):
  ∃h1 bv bv' u2,B3 tb(Ck tb)h ncc [.ptr id 0]=some(.tup [],some h1)∧load h1 false 1(.ptr id 1)=some bv∧U1 h1 te 1 1 bv(Bw s)=some(bv',u2)∧store(u2.getD h1)1(.ptr id 1)bv'=some G∧
   (G.length=h.length∨ ¬CE(G.take h.length)≤h.length):=by
 cases hg with
 |none hh ha hs=>
  subst hs
  have hc:=Wl hcc hne hh ha
  have hid:=(List.getElem?_eq_some_iff.1 hh).1
  have h2:=G9(h:=h.set id(.cells(some tB) [.ptr id 0, .nils]))(List.getElem?_set_self hid)
  refine⟨_, .nils, .nils,none,hc,?_,?_,?_, .inl(by simp)⟩
  ·simp[load,place,h2.1,Hu,sub]
  ·simp[U1,Bw]
  ·simp[store,h2.1,h2.2,cellsOf,By]
 |first hh ha hs hm=>
  have hc:=Wl hcc hne hh ha
  have hid:=(List.getElem?_eq_some_iff.1 hh).1
  have h2:=G9(h:=h.set id(.cells(some tB) [.ptr id 0, .nils]))(List.getElem?_set_self hid)
  have hid':id<(h.set id(BH.cells(some tB) [.ptr id 0, .nils])).length:=by simpa using hid
  have h3:(h.set id(BH.cells(some tB) [.ptr id 0, .nils])++[BH.row(some te)false 1(Bw s)])[id]? =some(.cells(some tB) [.ptr id 0, .nils]):=by
   rw[List.getElem?_append_left hid']
   exact List.getElem?_set_self hid
  have h4:=G9 h3
  have hs0: ¬s.length=0:=by simpa using hs
  refine⟨_, .nils, .orow h.length s.length 0 s.length,some(h.set id(BH.cells(some tB) [.ptr id 0, .nils])++[BH.row(some te)false 1(Bw s)]),hc,?_,?_,?_, .inr(aO(te:=te)(tB:=tB)(s:=s)hid rfl)⟩
  ·simp[load,place,h2.1,Hu,sub]
  ·simp[U1,KG,hs,hm]
  ·simp[store,h4.1,h4.2,cellsOf,By]
   rw[List.set_append_left _ _ hid',List.set_set]
 | @more r l hh hr hne' hm=>
  have hc:=Wl hcc hne hh(.inr rfl)
  rw[gN hh]at hc
  have h1:=G9 hh
  have hrow:=gS hr
  by_cases hs:s=[]
  ·subst hs
   have hm':l.length≤Bf:=by simpa using hm
   refine⟨_, .orow r l.length 0 l.length, .orow r l.length 0 l.length,none,hc,?_,?_,?_, .inl(by simp)⟩
   ·simp[load,place,h1.1,Hu,sub]
   ·simp[U1,hrow.1,KG,hm',Bw]
   ·simp[store,h1.1,h1.2,cellsOf,By,gN hr]
  ·have h2:(h.set r(BH.row(some te)false 1(Bw(l++s))))[id]? =some(.cells(some tB) [.ptr id 0, .orow r l.length 0 l.length]):=by
    rw[List.getElem?_set_ne hne'];exact hh
   have h3:=G9 h2
   have hs0: ¬s.length=0:=by simpa using hs
   refine⟨_, .orow r l.length 0 l.length, .orow r(l++s).length 0(l++s).length,some(h.set r(BH.row(some te)false 1(Bw(l++s)))),hc,?_,?_,?_, .inl(by simp)⟩
   ·simp[load,place,h1.1,Hu,sub]
   ·simp[U1,hrow.1,hrow.2,KG,lK,hm,hs,UM]
   ·simp[store,h3.1,h3.2,cellsOf,By]
theorem ON{fn:CM}{args vs:List AV}{f f':Fr}{G:Av}{e:Ex}(hn:args.length=fn.np)(hf:(args.zipIdx.map fun p=>(p.2,p.1))=f)(he:AX tb(Ck tb)fn.body f h=some(e,f',G))(hex:e= .ret∨e= .normal)(hr:results f' G fn.res=some vs):
  body tb(Ck tb)fn args h=some(WY fn.warm h.length G vs):=by
 simp only[body,if_pos hn,hf,he,Option.bind_some]
 rcases hex with rfl|rfl<;>simp[hr]
theorem ws_eval(hf:tb.prim nws=none∧tb.fns nws=some(Ws te ncc))(hcc:tb.prim ncc=none∧tb.fns ncc=some(MW tB nne))(hne:tb.prim nne=some OU){s:AN}{G:Av}(hg:Yt tB te h id s G):
  B3 tb(Ck tb)h nws [.ptr id 0, .s s]=some(.tup [.i .i64 s.length, .nili],some G):=by
 obtain⟨h1,bv,bv',u2,a1,a2,a3,a4,a5⟩:=X1 hcc hne hg
 obtain⟨f',e1,e2⟩:=ws_run a1 a2 a3 a4
 simp only[B3,hf.1]
 rw[PS,hf.2]
 simp only[Option.bind_some]
 rw[ON(tb:=tb)(h:=h)(fn:=Ws te ncc)(args:=[.ptr id 0, .s s])rfl rfl e1(.inl rfl)e2]
 rcases a5 with a5|a5
 ·obtain⟨u,hu,rfl⟩:=LK false h.length G a5 [.i .i64 s.length, .nili]rfl
  exact congrArg some hu
 ·exact congrArg some(TR h.length G a5 [.i .i64 s.length, .nili]rfl false)
theorem wb_eval(hf:tb.prim nwb=none∧tb.fns nwb=some(Wu te ncc))(hcc:tb.prim ncc=none∧tb.fns ncc=some(MW tB nne))(hne:tb.prim nne=some OU){c:UInt8}{G:Av}(hg:Yt tB te h id [c]G):
  B3 tb(Ck tb)h nwb [.ptr id 0, .i .u8 c.toNat]=some(.nili,some G):=by
 obtain⟨h1,bv,bv',u2,a1,a2,a3,a4,a5⟩:=X1 hcc hne hg
 obtain⟨f',e1,e2⟩:=wb_run a1 a2 a3 a4
 simp only[B3,hf.1]
 rw[PS,hf.2]
 simp only[Option.bind_some]
 rw[ON(tb:=tb)(h:=h)(fn:=Wu te ncc)(args:=[.ptr id 0, .i .u8 c.toNat])rfl rfl e1(.inl rfl)e2]
 rcases a5 with a5|a5
 ·obtain⟨u,hu,rfl⟩:=LK false h.length G a5 [.nili]rfl
  exact congrArg some hu
 ·exact congrArg some(TR h.length G a5 [.nili]rfl false)
theorem aJ: ∀l:AN,E0(Bw l)=some l
 |[]=>rfl
 |c::l=>by
  have:=aJ l
  simp only[Bw,List.map_cons,E0]at this ⊢
  rw[this]
  simp
theorem AaA{G:Av}{bv pv:AV}{n:Nat}{s:AN}{u2:Option Av}(hld:load h false 1(.ptr id 1)=some bv)(hus:Bq tb(Ck tb)(fun _=>bv)h(.usd(.t 0))=some(pv,none))(hln:PG bv=some n)
  (hst:Bq tb(Ck tb)(fun a=>match a with| .t 0=>pv|_=> .i .i64 n)h(.ust te(.t 0)(.t 1))=some(.s s,u2))(hG:u2.getD h=G):
  ∃f',AX tb(Ck tb)(RQ te).body [(0, .ptr id 0)]h=some(.ret,f',G)∧results f' G [.tmp 2]=some [.s s]:=by
 subst hG
 apply Exists.intro
 apply And.intro
 ·unfold RQ
  simp only
  refine(Jl(Nb(v:= .s [])(u:=none)rfl rfl)).trans ?_
  refine(pQ(aE(n:=1)(p:=(_,u2.getD h))
   (vK(v:= .ptr id 0)rfl(vK(v:= .ptr id 0)rfl(vK(v:= .ptr id 1)rfl(vK(v:=bv)(aP(by exact hld))(vK(v:=pv)(by exact hus)(vK(v:= .ptr id 0)rfl(vK(v:= .ptr id 0)rfl(vK(v:= .ptr id 1)rfl(vK(v:=bv)(aP(by exact hld))(vK(v:= .i .i64 n)(ap_len(by exact hln))
    (stW(v:= .s s)(u:=u2)(by exact hst)(vK(v:= .s s)rfl stE)))))))))))))).trans ?_
  rfl
 ·rfl
theorem lL(hf:tb.prim nbs=none∧tb.fns nbs=some(RQ te))(hh:h[id]? =some(.cells(some tB) [a, .nils])):B3 tb(Ck tb)h nbs [.ptr id 0]=some(.s [],some h):=by
 have hcl:=(G9 hh).1
 obtain⟨f',e1,e2⟩:=AaA(tb:=tb)(te:=te)(h:=h)(id:=id)(G:=h)(bv:= .nils)(pv:= .nilp)(n:=0)(s:=[])(u2:=none)(by simp[load,place,hcl,Hu,sub])rfl rfl(by simp[Bq,HW])rfl
 simp only[B3,hf.1]
 rw[PS,hf.2]
 simp only[Option.bind_some]
 rw[ON(tb:=tb)(h:=h)(fn:=RQ te)(args:=[.ptr id 0])rfl rfl e1(.inl rfl)e2]
 obtain⟨u,hu,rfl⟩:=LK false h.length h rfl [.s []]rfl
 exact congrArg some hu
theorem bs_eval(hf:tb.prim nbs=none∧tb.fns nbs=some(RQ te)){r:Nat}{l:AN}(hh:h[id]? =some(.cells(some tB) [a, .orow r l.length 0 l.length]))(hr:h[r]? =some(.row(some te)false 1(Bw l)))(hl:l≠[])(hm:l.length≤Bf):
  B3 tb(Ck tb)h nbs [.ptr id 0]=some(.s l,some(h.set r(.row(some te)true 1(Bw l)))):=by
 have hcl:=(G9 hh).1
 have hrow:=gS hr
 have hpos:0<l.length:=List.length_pos_iff.2 hl
 have htk:(Bw l).take l.length=Bw l:=List.take_of_length_le(by simp[Bw])
 obtain⟨f',e1,e2⟩:=AaA(tb:=tb)(te:=te)(h:=h)(id:=id)(G:=h.set r(.row(some te)true 1(Bw l)))(bv:= .orow r l.length 0 l.length)(pv:= .pe r l.length 0 0)(n:=l.length)(s:=l)(u2:=some(h.set r(.row(some te)true 1(Bw l))))
  (by simp[load,place,hcl,Hu,sub])(by simp[Bq,hrow.1,KG,hpos])rfl(by simp[Bq,HW,hrow.1,hrow.2,KG,hpos,htk,aJ,show(l.length:Int)≤Bf by omega])rfl
 simp only[B3,hf.1]
 rw[PS,hf.2]
 simp only[Option.bind_some]
 rw[ON(tb:=tb)(h:=h)(fn:=RQ te)(args:=[.ptr id 0])rfl rfl e1(.inl rfl)e2]
 obtain⟨u,hu,rfl⟩:=LK false h.length(h.set r(.row(some te)true 1(Bw l)))(by simp) [.s l]rfl
 exact congrArg some hu
end
end Go.Proofs.YtobejhpigbllpaaGreatDoor.Am
namespace Go.Proofs.YtobejhpigbllpaaGreatDoor.Am
def OP(tB te:Nat)(g:Bool):Dom where
 α:=AN
 R:=fun F _ H v l=> ∃id,v= .ptr id 0∧((g=false∧l=[]∧ ∃a,(a= .nilp∨a= .ptr id 0)∧H[id]? =some(.cells(some tB) [a, .nils])∧ ∀i,F i↔i=id)∨
  ((g=true∨l≠[])∧ ∃r,r≠id∧H[id]? =some(.cells(some tB) [.ptr id 0, .orow r l.length 0 l.length])∧H[r]? =some(.row(some te)false 1(Bw l))∧ ∀i,F i↔(i=id∨i=r)))
 lt:=by
  rintro F P H v l⟨id,_,⟨_,_,a,_,h,hF⟩|⟨_,r,_,h,h',hF⟩⟩i hi
  ·obtain rfl:=(hF i).1 hi;exact AT h
  ·rcases(hF i).1 hi with rfl|rfl
   ·exact AT h
   ·exact AT h'
 men:=by
  rintro F P H v l m⟨id,rfl,⟨_,_,a,_,h,hF⟩|⟨_,r,_,h,h',hF⟩⟩_ hm
  ·exact hm id((hF id).2 rfl)
  ·exact hm id((hF id).2(.inl rfl))
 mono:=by
  rintro F P Q H G v l _ hG⟨id,hv,⟨h0,h1,a,h2,h,hF⟩|⟨h0,r,h1,h,h',hF⟩⟩
  ·exact⟨id,hv, .inl⟨h0,h1,a,h2,by rw[hG id((hF id).2 rfl)];exact h,hF⟩⟩
  ·exact⟨id,hv, .inr⟨h0,r,h1,by rw[hG id((hF id).2(.inl rfl))];exact h,by rw[hG r((hF r).2(.inr rfl))];exact h',hF⟩⟩
def DUsed:Dom where
 α:=Unit
 R:=fun F _ H v _=>(∀i,F i→i<H.length)∧ ∃id,v= .ptr id 0∧F id
 lt:=fun h=>h.1
 men:=by rintro F P H v x m⟨_,id,rfl,h⟩_ hm;exact hm id h
 mono:=by
  rintro F P Q H G v x _ hG⟨h,id,hv,hi⟩
  refine⟨fun i hi=> ?_,id,hv,hi⟩
  have h1:=h i hi
  have h2:=hG i hi
  rw[List.getElem?_eq_getElem h1]at h2
  exact AT h2
theorem Oc(l:AN):CN(Bw l)=0:=by
 have:=(aR(P:=fun _=>False)(H:=[])l).men(m:=0)(fun _ h=>h.elim)
 omega
section
variable {tb:CZ}{tB te ncc nne nws nwb nbs:Nat}
theorem lN{g:Bool}{F P:Nat→Prop}{H:Av}{v:AV}{l s:AN}(hw:CE H≤H.length)(h:(OP tB te g).R F P H v l)(hm:l.length+s.length≤Bf):
  ∃id G F',v= .ptr id 0∧Yt tB te H id s G∧H.length≤G.length∧(∀i,i<H.length→ ¬F i→G[i]? =H[i]?)∧(∀i,F' i→F i∨(H.length≤i∧i<G.length))∧CE G≤G.length∧ ∀Q,(OP tB te g).R F' Q G v(l++s):=by
 obtain⟨id,hv,⟨h0,h1,a,ha,hh,hF⟩|⟨h0,r,hne,hh,hr,hF⟩⟩:=h
 ·subst h1
  have hid:=AT hh
  by_cases hs:s=[]
  ·subst hs
   refine⟨id,_,F,hv, .none hh ha rfl,by simp,fun i _ hi=>List.getElem?_set_ne fun e=>hi((hF i).2 e.symm),fun i hi=> .inl hi,?_,fun Q=>⟨id,hv, .inl⟨h0,rfl,_, .inr rfl,List.getElem?_set_self hid,hF⟩⟩⟩
   simp only[List.length_set]
   exact H6 hw(by simp only[En,Bh,B9];omega)
  ·refine⟨id,_,fun i=>i=id∨i=H.length,hv, .first hh ha hs(by simpa using hm),by simp,fun i hi hn=> ?_,fun i hi=> ?_,?_,fun Q=>⟨id,hv, .inr⟨.inr(by simpa using hs),H.length,by omega,?_,?_,fun i=>Iff.rfl⟩⟩⟩
   ·rw[List.getElem?_append_left(by simpa using hi)]
    exact List.getElem?_set_ne fun e=>hn((hF i).2 e.symm)
   ·rcases hi with rfl|rfl
    ·exact .inl((hF _).2 rfl)
    ·exact .inr⟨Nat.le_refl _,by simp⟩
   ·rw[Qq]
    have:=H6(l:=H)(i:=id)(o:= .cells(some tB) [.ptr id 0, .orow H.length s.length 0 s.length])(m:=H.length+1)(by omega)(by simp only[En,Bh,B9];omega)
    simp only[CE,En,Oc,List.length_append,List.length_set,List.length_cons,List.length_nil]
    omega
   ·rw[List.getElem?_append_left(by simpa using hid),List.nil_append]
    exact List.getElem?_set_self hid
   ·rw[List.getElem?_append_right(by simp)];simp
 ·have hid:=AT hh
  have hrd:=AT hr
  refine⟨id,_,F,hv, .more hh hr hne hm,by simp,fun i _ hi=> ?_,fun i hi=> .inl hi,?_,fun Q=>⟨id,hv, .inr⟨?_,r,hne,?_,?_,hF⟩⟩⟩
  ·rw[List.getElem?_set_ne(fun e=>hi((hF i).2(.inl e.symm))),List.getElem?_set_ne(fun e=>hi((hF i).2(.inr e.symm)))]
  ·simp only[List.length_set]
   exact H6(H6 hw(by simp only[En,Oc];omega))(by simp only[En,Bh,B9];omega)
  ·rcases h0 with h0|h0
   ·exact .inl h0
   ·exact .inr(by simp[h0])
  ·exact List.getElem?_set_self(by simpa using hid)
  ·rw[List.getElem?_set_ne(Ne.symm hne)]
   exact List.getElem?_set_self hrd
variable {Γ:Cx}{a b:AO}
theorem pC{d:Nat}{z:List AV}(j:Nat)(te:Nat)(hz:z=[.nilp, .nils])(hj:AG Γ.ss j=none):Wp tb Γ(some d)(.alloc tB z)(some([]:AN))fun l=>⟨(d, .own j)::Γ.ts,(j, .dom(OP tB te false)l)::Γ.ss⟩:=by
 rintro E rv fp f H R _⟨⟩
 subst hz
 obtain⟨rv',fp',h1,h2,h3⟩:=R.more(j:=j)(S:= .dom(OP tB te false) [])(v:= .ptr H.length 0)(o:= .cells(some tB) [.nilp, .nils])(H7 hj)(by simp only[En,Bh,B9];omega)rfl(by simp[B9])rfl fun rv' fp' e1 e2 hP hs=>
  ⟨H.length,e1, .inl⟨rfl,rfl, .nilp, .inl rfl,by simp,e2⟩⟩
 exact⟨_,_,rfl,rv',fp',h3.push(d:=d)(φ:= .own j)⟨h2,h1.symm⟩⟩
theorem Bp.dom{E:Pr}{rv:Nat→AV}{fp:Fp}{f:Fr}{H G:Av}(R:Bp E Γ rv fp f H){j:Nat}{S:Db}{D:Dom}{y:D.α}(hnk:D8(AG Γ.ss j)=false)(hl:Ba Γ.ss j){F':Nat→Prop}(hlen:H.length≤G.length)(hG: ∀i,i<H.length→ ¬fp j i→G[i]? =H[i]?)
  (hF: ∀i,F' i→fp j i∨(H.length≤i∧i<G.length))(hw:CE G≤G.length)(hS:S= .dom D y)(hR: ∀Q,D.R F' Q G(rv j)y):
  ∃rv' fp',rv' j=rv j∧Ba((j,S)::Γ.ss)j∧Bp E⟨Γ.ts,(j,S)::Γ.ss⟩rv' fp' f G:=by
 subst hS
 exact R.chg(j:=j)(S:= .dom D y)(v:=rv j)(F:=F')(G:=G)hnk rfl hlen(fun i hi hn=>hG i hi(hn hl))(fun i hi=>(hF i hi).imp(fun h=>⟨hl,h⟩)id)(fun _=> .inl rfl)hw(Nat.le_trans(R.rvlt j hl)hlen)(.inr((R.scal j hl).resolve_left(by rw[hnk];simp)))
  fun rv' fp' e1 e2 _ _=>by
   show D.R(fp' j)_ G(rv' j)y
   rw[e1,e2];exact hR _
def Ma(l s:AN):Option AN:=if l.length+s.length≤Bf then some(l++s)else none
theorem Yr{g:Bool}{d j:Nat}{l s:AN}(hcc:tb.prim ncc=none∧tb.fns ncc=some(MW tB nne))(hne:tb.prim nne=some OU)(hf:tb.prim nws=none∧tb.fns nws=some(Ws te ncc))
  (ha:CA tb Γ a(.own j))(hj:AG Γ.ss j=some(.dom(OP tB te g)l))(hb:CA tb Γ b(.val Ax s)):
  Wp tb Γ(some d)(.call nws [a,b])(Ma l s)fun l'=>⟨(d, .junk)::Γ.ts,(j, .dom(OP tB te g)l')::Γ.ss⟩:=by
 intro E rv fp f H R l' hl'
 simp only[Ma]at hl'
 split at hl'
 ·rename_i hm
  cases hl'
  obtain⟨hl,hv⟩:=ha E rv fp f H R
  obtain⟨id,G,F',e,hg,h1,h2,h3,h4,h5⟩:=lN(s:=s)R.wf(R.slots j _ hj)hm
  obtain⟨rv',fp',g1,g2,g3⟩:=R.dom(G:=G)(F':=F')(by rw[hj];rfl)hl h1 h2 h3 h4 rfl h5
  refine⟨.tup [.i .i64 s.length, .nili],some G,?_,rv',fp',g3.push(d:=d)(φ:= .junk)trivial⟩
  simp only[Bq,List.map_cons,List.map_nil,hv,e,EC.1(hb E rv fp f H R)]
  exact ws_eval hf hcc hne hg
 ·cases hl'
theorem AaT{g:Bool}{d j:Nat}{l:AN}{c:UInt8}(hcc:tb.prim ncc=none∧tb.fns ncc=some(MW tB nne))(hne:tb.prim nne=some OU)(hf:tb.prim nwb=none∧tb.fns nwb=some(Wu te ncc))
  (ha:CA tb Γ a(.own j))(hj:AG Γ.ss j=some(.dom(OP tB te g)l))(hb:CA tb Γ b(.val T.u8 c)):
  Wp tb Γ(some d)(.call nwb [a,b])(Ma l [c])fun l'=>⟨(d, .junk)::Γ.ts,(j, .dom(OP tB te g)l')::Γ.ss⟩:=by
 intro E rv fp f H R l' hl'
 simp only[Ma]at hl'
 split at hl'
 ·rename_i hm
  cases hl'
  obtain⟨hl,hv⟩:=ha E rv fp f H R
  obtain⟨id,G,F',e,hg,h1,h2,h3,h4,h5⟩:=lN(s:=[c])R.wf(R.slots j _ hj)hm
  obtain⟨rv',fp',g1,g2,g3⟩:=R.dom(G:=G)(F':=F')(by rw[hj];rfl)hl h1 h2 h3 h4 rfl h5
  refine⟨.nili,some G,?_,rv',fp',g3.push(d:=d)(φ:= .junk)trivial⟩
  simp only[Bq,List.map_cons,List.map_nil,hv,e,U4.1(hb E rv fp f H R)]
  exact wb_eval hf hcc hne hg
 ·cases hl'
def eV(g:Bool)(l:AN):Option AN:=if l.length≤Bf∧(g=true→l≠[])then some l else none
theorem pB{g:Bool}{d j:Nat}{l:AN}(hf:tb.prim nbs=none∧tb.fns nbs=some(RQ te))(ha:CA tb Γ a(.own j))(hj:AG Γ.ss j=some(.dom(OP tB te g)l)):
  Wp tb Γ(some d)(.call nbs [a])(eV g l)fun l'=>⟨(d, .val Ax l')::Γ.ts,(j, .dom DUsed())::Γ.ss⟩:=by
 intro E rv fp f H R l' hl'
 simp only[eV]at hl'
 split at hl'
 ·rename_i hc
  obtain⟨hm,hg⟩:=hc
  cases hl'
  obtain⟨hl,hv⟩:=ha E rv fp f H R
  have hd:=R.slots j _ hj
  obtain⟨id,e,⟨h0,h1,x,hx,hh,hF⟩|⟨h0,r,hne',hh,hr,hF⟩⟩:=hd
  ·subst h1
   obtain⟨rv',fp',g1,g2,g3⟩:=R.dom(D:=DUsed)(y:=())(G:=H)(F':=fp j)(by rw[hj];rfl)hl(Nat.le_refl _)(fun _ _ _=>rfl)(fun i hi=> .inl hi)R.wf rfl(fun Q=>⟨fun i hi=>(R.fplt j i hl hi).1,id,e,(hF id).2 rfl⟩)
   refine⟨.s [],some H,?_,rv',fp',g3.push(d:=d)(φ:= .val Ax [])(EC.2 rfl)⟩
   simp only[Bq,List.map_cons,List.map_nil,hv,e]
   exact lL hf hh
  ·have hl0:l≠[]:=by
    rcases h0 with h0|h0
    ·exact hg h0
    ·exact h0
   have hrd:=AT hr
   obtain⟨rv',fp',g1,g2,g3⟩:=R.dom(D:=DUsed)(y:=())(G:=H.set r(.row(some te)true 1(Bw l)))(F':=fp j)(by rw[hj];rfl)hl(by simp)(fun i _ hn=>List.getElem?_set_ne fun e=>hn((hF i).2(.inr e.symm)))(fun i hi=> .inl hi)
    (by simp only[List.length_set];exact H6 R.wf(by simp only[En,Oc];omega))rfl(fun Q=>⟨fun i hi=>by simpa using(R.fplt j i hl hi).1,id,e,(hF id).2(.inl rfl)⟩)
   refine⟨.s l,some(H.set r(.row(some te)true 1(Bw l))),?_,rv',fp',g3.push(d:=d)(φ:= .val Ax l)(EC.2 rfl)⟩
   simp only[Bq,List.map_cons,List.map_nil,hv,e]
   exact bs_eval hf hh hr hl0 hm
 ·cases hl'
end
end Go.Proofs.YtobejhpigbllpaaGreatDoor.Am
namespace Go.Proofs.YtobejhpigbllpaaGreatDoor.Am
section
variable {tb:CZ}{Γ:Cx}{a b:AO}{E:Pr}{rv:Nat→AV}{fp:Fp}{f:Fr}{H:Av}
theorem RB{n j:Nat}{φ:AL}(h:BD Γ.ts n=some(.kv j))(hj:AG Γ.ss j=some(.keep φ)):CA tb Γ(.t n)φ:=by
 intro E rv fp f H I
 have h1:=(I.temps n _ h).2
 have h2:=(I.slots j _ hj).1
 show FR rv Γ.ss(Pf E Γ.ss fp H)H φ(get f n)
 rw[h1];exact h2
theorem H4{g:Nat}:CA tb Γ(.f g)(.fnv(.func g) [] []):=fun _ _ _ _ _ _=>⟨fun j hj=>(by cases hj),rfl⟩
theorem Bp.keepNew(I:Bp E Γ rv fp f H){j:Nat}{φ:AL}{v:AV}(hj:AG Γ.ss j=none)(h:FR rv Γ.ss(Pf E Γ.ss fp H)H φ v)(hv:B9 v≤H.length):
  ∃rv' fp',rv' j=v∧(∀k,k≠j→rv' k=rv k)∧Bp E⟨Γ.ts,(j, .keep φ)::Γ.ss⟩rv' fp' f H∧ ∀ψ w,FR rv Γ.ss(Pf E Γ.ss fp H)H ψ w→FR rv'((j, .keep φ)::Γ.ss)(Pf E((j, .keep φ)::Γ.ss)fp' H)H ψ w:=by
 have hnl:=H7 hj
 let rv':Nat→AV:=fun k=>if k=j then v else rv k
 let fp':Fp:=fun k=>if k=j then fun _=>False else fp k
 have hrj:rv' j=v:=if_pos rfl
 have hfj: ∀i,¬fp' j i:=fun i h=>by simp only[fp',if_true]at h
 have hr: ∀k,k≠j→rv' k=rv k:=fun k hk=>if_neg hk
 have hf: ∀k,k≠j→fp' k=fp k:=fun k hk=>if_neg hk
 have hlv: ∀k,k≠j→(Ba((j, .keep φ)::Γ.ss)k↔Ba Γ.ss k):=fun k hk=>Ua hk
 have hne: ∀k,Ba Γ.ss k→k≠j:=fun k l e=>hnl(e▸l)
 have hfind: ∀k,k≠j→AG((j, .keep φ)::Γ.ss)k=AG Γ.ss k:=fun k hk=>by simp only[AG,if_neg(Ne.symm hk)]
 have hP: ∀i,Pf E Γ.ss fp H i→Pf E((j, .keep φ)::Γ.ss)fp' H i:=by
  rintro i(h|⟨h1,h2,h3⟩)
  ·exact .inl h
  ·refine .inr⟨h1,h2,fun k l e=> ?_⟩
   by_cases hk:k=j
   ·subst hk;exact hfj i e
   ·rw[hf k hk]at e;exact h3 k((hlv k hk).1 l)e
 have hsame: ∀ψ,U5 rv rv' Γ.ss((j, .keep φ)::Γ.ss)ψ:=fun ψ k _ l=>⟨⟨(hlv k(hne k l)).2 l,fun e=>by rw[hfind k(hne k l)];exact e⟩,hr k(hne k l)⟩
 have hFR: ∀ψ w,FR rv Γ.ss(Pf E Γ.ss fp H)H ψ w→FR rv'((j, .keep φ)::Γ.ss)(Pf E((j, .keep φ)::Γ.ss)fp' H)H ψ w:=fun ψ w k=>k.mono(fun i hi=>⟨hP i hi,rfl⟩)(hsame ψ)
 refine⟨rv',fp',hrj,hr,⟨I.le,I.base,I.wf,?_,?_,?_,?_,?_,fun t ψ e=>hFR ψ _(I.temps t ψ e),?_⟩,hFR⟩
 ·intro k i l e
  by_cases hk:k=j
  ·subst hk;exact absurd e(hfj i)
  ·rw[hf k hk]at e;exact I.fplt k i((hlv k hk).1 l)e
 ·intro k l
  by_cases hk:k=j
  ·subst hk;rw[hrj];exact hv
  ·rw[hr k hk];exact I.rvlt k((hlv k hk).1 l)
 ·intro k l
  by_cases hk:k=j
  ·subst hk;exact .inl(by simp only[AG,if_true];rfl)
  ·rw[hr k hk,hfind k hk];exact I.scal k((hlv k hk).1 l)
 ·intro k k' i l l' e e'
  by_cases hk:k=j
  ·subst hk;exact absurd e(hfj i)
  ·by_cases hk':k'=j
   ·subst hk';exact absurd e'(hfj i)
   ·rw[hf k hk]at e
    rw[hf k' hk']at e'
    exact I.inj k k' i((hlv k hk).1 l)((hlv k' hk').1 l')e e'
 ·intro k S e
  by_cases hk:k=j
  ·subst hk
   simp only[AG,if_true,Option.some.injEq]at e
   subst e
   exact⟨by rw[hrj];exact hFR φ v h,hfj⟩
  ·rw[hfind k hk]at e
   exact(I.slots k S e).keep(hr k hk)(hf k hk)(fun i hi=>⟨hP i hi,rfl⟩)(Nat.le_refl _)(fun _ _=>rfl)(fun ps _ p _=>hsame p.2)(fun ψ _=>hsame ψ)fun _ _ _=>hsame _
 ·intro k ψ e
  by_cases hk:k=j
  ·subst hk;simp only[AG,if_true]at e;cases e
  ·rw[hfind k hk]at e;exact hFR ψ _(I.gh k ψ e)
def lP:Nat→List AL→Ss→Ss
 |_,[],ss=>ss
 |j,φ::l,ss=>lP(j+1)l((j, .keep φ)::ss)
def Ul(ss:Ss):Nat→List AL→Prop
 |_,[]=>True
 |j,_::l=>AG ss j=none∧Ul ss(j+1)l
def lW(rv:Nat→AV)(ss:Ss)(P:Nat→Prop)(H:Av):List AL→List AV→Prop
 |[],[]=>True
 |φ::l,v::r=>FR rv ss P H φ v∧lW rv ss P H l r
 |_,_=>False
theorem UQ{ss:Ss}{S:Db}{k:Nat}: ∀{l:List AL}{j:Nat},k<j→Ul ss j l→Ul((k,S)::ss)j l
 |[],_,_,_=>trivial
 |_::_,j,hk,h=>⟨by simp only[AG,if_neg(show¬k=j by omega)];exact h.1,UQ(by omega)h.2⟩
theorem lO{k:Nat}: ∀{l:List AL}{j:Nat}{ss:Ss},k<j→AG(lP j l ss)k=AG ss k
 |[],_,_,_=>rfl
 |φ::l,j,ss,hk=>by
  rw[lP,lO(by omega)]
  simp only[AG,if_neg(show¬j=k by omega)]
theorem Bp.keepL: ∀{l:List AL}{vs:List AV}{Γ:Cx}{rv:Nat→AV}{fp:Fp}{j:Nat},Bp E Γ rv fp f H→Ul Γ.ss j l→lW rv Γ.ss(Pf E Γ.ss fp H)H l vs→(∀v∈vs,B9 v≤H.length)→
  ∃rv' fp',(List.range' j l.length).map rv'=vs∧Ny(lP j l Γ.ss)(List.range' j l.length)∧(∀k,k<j→rv' k=rv k)∧Bp E⟨Γ.ts,lP j l Γ.ss⟩rv' fp' f H
 |[],[],Γ,rv,fp,j,I,_,_,_=>⟨rv,fp,rfl,fun _ h=>(by cases h),fun _ _=>rfl,I⟩
 |φ::l,v::vs,Γ,rv,fp,j,I,hf,hv,hm=>by
  obtain⟨rv1,fp1,h1,h2,h3,h4⟩:=I.keepNew hf.1 hv.1(hm v List.mem_cons_self)
  have key: ∀{l:List AL}{vs:List AV},lW rv Γ.ss(Pf E Γ.ss fp H)H l vs→lW rv1((j, .keep φ)::Γ.ss)(Pf E((j, .keep φ)::Γ.ss)fp1 H)H l vs:=by
   intro l
   induction l with
   |nil=>intro vs h;cases vs<;>exact h
   |cons ψ l ih=>
    intro vs h
    cases vs with
    |nil=>exact h
    |cons w vs=>exact⟨h4 ψ w h.1,ih h.2⟩
  obtain⟨rv2,fp2,g1,g2,g3,g4⟩:=Bp.keepL(l:=l)(vs:=vs)(j:=j+1)h3(UQ(by omega)hf.2)(key hv.2)(fun w hw=>hm w(List.mem_cons_of_mem _ hw))
  refine⟨rv2,fp2,?_,fun k hk=> ?_,fun k hk=>by rw[g3 k(by omega),h2 k(by omega)],g4⟩
  ·rw[List.length_cons,List.range'_succ,List.map_cons,g1,g3 j(by omega),h1]
  ·rw[List.length_cons,List.range'_succ]at hk
   rcases List.mem_cons.1 hk with rfl|hk
   ·rw[lP,lO(by omega)];simp only[AG,if_true];rfl
   ·exact g2 k hk
inductive Tz(tb:CZ)(Γ:Cx):List AO→List AL→Prop where
 |nil:Tz tb Γ [] []
 |cons{a:AO}{φ:AL}{l:List AO}{r:List AL}:CA tb Γ a φ→Tz tb Γ l r→Tz tb Γ(a::l)(φ::r)
theorem Tz.spec(I:Bp E Γ rv fp f H): ∀{l:List AO}{r:List AL},Tz tb Γ l r→lW rv Γ.ss(Pf E Γ.ss fp H)H r(l.map(eval tb f))
 |_,_, .nil=>trivial
 |_,_, .cons h k=>⟨h E rv fp f H I,k.spec I⟩
theorem Tz.length: ∀{l:List AO}{r:List AL},Tz tb Γ l r→r.length=l.length
 |_,_, .nil=>rfl
 |_,_, .cons _ k=>by simp[k.length]
theorem Tz.app: ∀{l m:List AO}{r q:List AL},Tz tb Γ l r→Tz tb Γ m q→Tz tb Γ(l++m)(r++q)
 |_,_,_,_, .nil,k=>k
 |_,_,_,_, .cons h k,g=> .cons h(k.app g)
def Wi:AL→Bool
 | .junk=>false
 |_=>true
theorem lW.men(hp: ∀i,Pf E Γ.ss fp H i→i<H.length)(hi: ∀j,Ba Γ.ss j→B9(rv j)≤H.length): ∀{l:List AL}{vs:List AV},l.all Wi=true→lW rv Γ.ss(Pf E Γ.ss fp H)H l vs→ ∀v∈vs,B9 v≤H.length
 |[],[],_,_,v,hv=>by cases hv
 |φ::l,w::vs,hj,h,v,hv=>by
  simp only[List.all_cons,Bool.and_eq_true]at hj
  rcases List.mem_cons.1 hv with rfl|hv
  ·exact FR.men hp hi(by rintro rfl;simp[Wi]at hj)h.1
  ·exact lW.men hp hi hj.2 h.2 v hv
def OpN(tb:CZ)(Γ:Cx)(d:Option Nat)(o:HT)(Γ':Cx):Prop:=
 ∀E rv fp f H,Bp E Γ rv fp f H→ ∃v u,Bq tb(Ck tb)(eval tb f)H o=some(v,u)∧u.getD H=H∧ ∃rv' fp',Bp E Γ' rv' fp'(put f d v)H
theorem Je{d:Nat}{fn:Fn}{xs ys:List AO}{φs ψs:List AL}(j:Nat)(hx:Tz tb Γ xs φs)(hy:Tz tb Γ ys ψs)(hn:(φs++ψs).all Wi=true)(hf:Ul Γ.ss j(φs++ψs)){js ks:List Nat}(hjs:js=List.range' j φs.length)(hks:ks=List.range'(j+φs.length)ψs.length):
  OpN tb Γ(some d)(.mkf fn xs ys)⟨(d, .fnv fn js ks)::Γ.ts,lP j(φs++ψs)Γ.ss⟩:=by
 intro E rv fp f H R
 subst hjs hks
 have hv:=(hx.app hy).spec R
 obtain⟨rv',fp',h1,h2,_,h4⟩:=R.keepL(j:=j)hf hv(lW.men R.ltP R.rvlt hn hv)
 rw[List.length_append,←List.range'_append_1]at h1 h2
 rw[List.map_append,List.map_append]at h1
 obtain⟨e1,e2⟩:=List.append_inj h1(by simp[hx.length])
 refine⟨_,none,rfl,rfl,rv',fp',h4.push(d:=d)(φ:= .fnv fn _ _)⟨h2,?_⟩⟩
 rw[e1,e2]
def oneS:Option Db→Bool
 |some(.row _ _)=>true
 |some(.rowk _ _)=>true
 |some(.cells _)=>true
 |some(.dom _ _)=>true
 |_=>false
def szF(ss:Ss):AL→Option Nat
 | .own j=>if oneS(AG ss j)then some 1 else none
 | .val t _=>some t.sz
 | .rp _ _=>some 1
 | .cp _ _=>some 1
 | .ep _ _ _=>some 1
 | .con _=>some 1
 | .fnv _ _ _=>some 1
 |_=>none
def AaK:AL→Bool
 | .val t _=>t.agg
 |_=>false
theorem mK{P:Nat→Prop}{v:AV}(h:Vy P v):cellsOf v=[v]:=by
 cases v<;>simp only[Vy]at h<;>rfl
theorem RV(I:Bp E Γ rv fp f H){φ:AL}{v:AV}{n:Nat}(hs:szF Γ.ss φ=some n)(h:FR rv Γ.ss(Pf E Γ.ss fp H)H φ v):(cellsOf v).length=n∧Hu(AaK φ)(cellsOf v)=some v:=by
 cases φ<;>simp only[szF,Option.some.injEq,reduceCtorEq]at hs
 case own j=>
  split at hs
  ·rename_i ho
   cases hs
   obtain⟨l,rfl⟩:=h
   have hsc:=(I.scal j l).resolve_left(by
    intro hk
    cases e:AG Γ.ss j with
    |none=>rw[e]at ho;cases ho
    |some S=>rw[e]at ho hk;cases S<;>simp only[oneS,D8,Bool.false_eq_true]at ho hk)
   rw[Lq hsc];exact⟨rfl,rfl⟩
  ·cases hs
 ·subst hs
  rename_i t x
  have hc:=T.V.cells h
  refine⟨t.len hc,?_⟩
  rcases h with⟨ha,cs,rfl,_⟩|⟨ha,hr⟩
  ·simp only[AaK,ha];rfl
  ·have:=t.sca hr
   simp only[List.all_cons,List.all_nil,Bool.and_true]at this
   rw[Lq this]
   simp only[AaK,ha];rfl
 ·subst hs;rw[mK h.1];exact⟨rfl,rfl⟩
 ·subst hs;obtain⟨_,id,_,rfl⟩:=h;exact⟨rfl,rfl⟩
 ·subst hs;obtain⟨_,id,m,_,_,rfl⟩:=h;exact⟨rfl,rfl⟩
 ·subst hs;obtain⟨rfl,_,hsc⟩:=h;rw[Lq hsc];exact⟨rfl,rfl⟩
 ·subst hs;obtain⟨_,rfl⟩:=h;exact⟨rfl,rfl⟩
def WO(ss:Ss):Nat→List(Nat×Nat×AO)→List AL→Option Nat
 |o,[],[]=>some o
 |o,(o',n,_)::r,φ::l=>if o'=o∧szF ss φ=some n then WO ss(o+n)r l else none
 |_,_,_=>none
theorem kA(I:Bp E Γ rv fp f H){rho:AO→AV}: ∀{ps:List(Nat×Nat×AO)}{l:List AL}{o e:Nat}{cs:List AV},WO Γ.ss o ps l=some e→e=cs.length→lW rv Γ.ss(Pf E Γ.ss fp H)H l(ps.map fun p=>rho p.2.2)→
  Mn cs rho ps=some(cs.take o++(ps.map fun p=>rho p.2.2).flatMap cellsOf)
 |[],[],o,e,cs,h,he,_=>by
  simp only[WO,Option.some.injEq]at h
  simp only[Mn,List.map_nil,List.flatMap_nil,List.append_nil]
  rw[List.take_of_length_le(by omega)]
 |(o',n,a)::ps,φ::l,o,e,cs,h,he,hv=>by
  simp only[WO]at h
  split at h
  ·rename_i hc
   obtain⟨rfl,hs⟩:=hc
   obtain⟨h1,_⟩:=RV I hs hv.1
   have hle: ∀{ps:List(Nat×Nat×AO)}{l:List AL}{o e:Nat},WO Γ.ss o ps l=some e→o≤e:=by
    intro ps
    induction ps with
    |nil=>intro l o e h;cases l<;>simp only[WO,Option.some.injEq,reduceCtorEq]at h;omega
    |cons q ps ih=>
     intro l o e h
     obtain⟨q1,q2,q3⟩:=q
     cases l with
     |nil=>simp[WO]at h
     |cons φ l=>
      simp only[WO]at h
      split at h
      ·have:=ih h;omega
      ·cases h
   have hb:=hle h
   simp only at h1
   simp only[Mn,h1]
   rw[if_pos⟨trivial,by omega⟩]
   have hlen:(By cs o'(cellsOf(rho a))).length=cs.length:=W2(by omega)
   rw[kA I h(by rw[hlen];exact he)hv.2]
   simp only[List.map_cons,List.flatMap_cons]
   have ht:(By cs o'(cellsOf(rho a))).take(o'+n)=cs.take o'++cellsOf(rho a):=by
    simp only[By]
    rw[List.take_left'(by simp only[List.length_append,List.length_take,h1];omega)]
   rw[ht,List.append_assoc]
  ·cases h
 |[],_::_,_,_,_,h,_,_=>by simp[WO]at h
 |(_,_,_)::_,[],_,_,_,h,_,_=>by simp[WO]at h
theorem GX{d:Nat}{zero:List AV}{ps:List(Nat×Nat×AO)}{φs:List AL}(j:Nat)(hx:Tz tb Γ(ps.map fun p=>p.2.2)φs)(hr:WO Γ.ss 0 ps φs=some zero.length)(hn:φs.all Wi=true)(hf:Ul Γ.ss j φs){js:List Nat}(hjs:js=List.range' j φs.length):
  OpN tb Γ(some d)(.bld zero ps)⟨(d, .aggk js)::Γ.ts,lP j φs Γ.ss⟩:=by
 intro E rv fp f H R
 subst hjs
 have hv:=hx.spec R
 rw[List.map_map]at hv
 have hfill:=kA R(rho:=eval tb f)hr rfl hv
 obtain⟨rv',fp',h1,h2,_,h4⟩:=R.keepL(j:=j)hf hv(lW.men R.ltP R.rvlt hn hv)
 refine⟨.agg(zero.take 0++(ps.map fun p=>eval tb f p.2.2).flatMap cellsOf),none,by simp only[Bq,hfill,val,Option.map_some],rfl,rv',fp',h4.push(d:=d)(φ:= .aggk _)⟨h2,?_⟩⟩
 have e:((List.range' j φs.length).flatMap fun j=>cellsOf(rv' j))=((List.range' j φs.length).map rv').flatMap cellsOf:=by rw[List.flatMap_map]
 rw[e,h1,List.take_zero,List.nil_append]
 rfl
def yF(ss:Ss):List Nat→Option Nat
 |[]=>some 0
 |j::r=>match AG ss j with
  |some(.keep φ)=>(szF ss φ).bind fun n=>(yF ss r).map(n+ ·)
  |_=>none
theorem ZN(I:Bp E Γ rv fp f H): ∀{l:List Nat}{o:Nat},yF Γ.ss l=some o→(l.flatMap fun j=>cellsOf(rv j)).length=o
 |[],o,h=>by simp only[yF,Option.some.injEq]at h;subst h;rfl
 |j::l,o,h=>by
  simp only[yF]at h
  split at h
  ·rename_i φ e
   obtain⟨n,hn,h⟩:=Option.bind_eq_some_iff.1 h
   obtain⟨m,hm,rfl⟩:=Option.map_eq_some_iff.1 h
   rw[List.flatMap_cons,List.length_append,ZN I hm,(RV I hn(I.slots j _ e).1).1]
  ·cases h
theorem X0{l r:List Nat}{j off n:Nat}{ag:Bool}{φ:AL}(ha:CA tb Γ a(.aggk(l++j::r)))(hl:yF Γ.ss l=some off)(hj:AG Γ.ss j=some(.keep φ))(hn:szF Γ.ss φ=some n)(hag:ag=AaK φ):F1 tb Γ(.fld ag off n a)(some())fun _=> .kv j:=by
 rintro E rv fp f H R _⟨⟩
 obtain⟨hk,hv⟩:=ha E rv fp f H R
 have h1:=ZN R hl
 obtain⟨h2,h3⟩:=RV R hn(R.slots j _ hj).1
 rw[List.flatMap_append,List.flatMap_cons]at hv
 subst hag
 have hsub:sub((l.flatMap fun j=>cellsOf(rv j))++(cellsOf(rv j)++r.flatMap fun j=>cellsOf(rv j)))off n=cellsOf(rv j):=by
  simp only[sub]
  rw[List.drop_left' h1,List.take_left' h2]
 refine⟨rv j,none,?_,rfl,fun k hk'=>by rw[List.mem_singleton.1 hk',hj];rfl,rfl⟩
 simp only[Bq,hv,hsub,h3,val,Option.map_some]
 rw[if_pos(by simp only[List.length_append,h1,h2];omega)]
variable {ks:List Kf}{ρ:Type}{Q:Mb ρ}
def BM{q:Bool}{d:Option Nat}{o:HT}{l:List AU}{Γ':Cx}(h:OpN tb Γ d o Γ')(k:Aa tb Γ'(rg q l)ks Q):Aa tb Γ(rg q(⟨d,none,o⟩::l))ks Q:=
 ⟨k.m,fun E f H⟨rv,fp,I⟩r hr=>by
  obtain⟨v,u,h1,h2,rv',fp',h3⟩:=h E rv fp f H I
  obtain⟨e,f',H',h4,h5⟩:=k.ok E _ _⟨rv',fp',h3⟩r hr
  exact⟨e,f',H',by rw[EA h1 h2];exact h4,h5⟩⟩
end
end Go.Proofs.YtobejhpigbllpaaGreatDoor.Am
namespace Go.Proofs.YtobejhpigbllpaaGreatDoor.Am
inductive Yv where
 |o(a:AO)
 |k(j:Nat)
def fV(tb:CZ)(f:Fr)(rv:Nat→AV):Yv→AV
 | .o a=>eval tb f a
 | .k j=>rv j
def OpS(tb:CZ)(Γ:Cx)(s:Yv)(φ:AL):Prop:= ∀E rv fp f H,Bp E Γ rv fp f H→FR rv Γ.ss(Pf E Γ.ss fp H)H φ(fV tb f rv s)
inductive Zt(tb:CZ)(Γ:Cx):List Yv→List AL→Prop where
 |nil:Zt tb Γ [] []
 |cons{s:Yv}{φ:AL}{l:List Yv}{r:List AL}:OpS tb Γ s φ→Zt tb Γ l r→Zt tb Γ(s::l)(φ::r)
def T2(tb:CZ)(Γ:Cx)(o:HT)(g:Nat)(l:List Yv):Prop:=
 ∀E rv fp f H,Bp E Γ rv fp f H→Bq tb(Ck tb)(eval tb f)H o=B3 tb(Ck tb)H g(l.map(fV tb f rv))
section
variable {tb:CZ}{Γ:Cx}{a b:AO}{E:Pr}{rv:Nat→AV}{fp:Fp}{f:Fr}{H:Av}
theorem NP{φ:AL}(h:CA tb Γ a φ):OpS tb Γ(.o a)φ:=h
theorem s_k{j:Nat}{φ:AL}(hj:AG Γ.ss j=some(.keep φ)):OpS tb Γ(.k j)φ:=fun _ _ _ _ _ I=>(I.slots j _ hj).1
theorem FL{g:Nat}{xs:List AO}{l:List Yv}(hl:l=xs.map .o):T2 tb Γ(.call g xs)g l:=by
 intro E rv fp f H I
 subst hl
 simp only[Bq,List.map_map];rfl
theorem GC{g:Nat}{x:AO}{xs:List AO}{js ks:List Nat}{l:List Yv}(ha:CA tb Γ x(.fnv(.func g)js ks))(hl:l=js.map .k++xs.map .o++ks.map .k):T2 tb Γ(.callv x xs)g l:=by
 intro E rv fp f H I
 subst hl
 simp only[Bq,(ha E rv fp f H I).2,List.map_append,List.map_map];rfl
theorem Zt.spec(I:Bp E Γ rv fp f H): ∀{l:List Yv}{r:List AL},Zt tb Γ l r→lW rv Γ.ss(Pf E Γ.ss fp H)H r(l.map(fV tb f rv))
 |_,_, .nil=>trivial
 |_,_, .cons h k=>⟨h E rv fp f H I,k.spec I⟩
def U0:Nat→List AL→Ts
 |_,[]=>[]
 |k,φ::r=>(k,φ)::U0(k+1)r
def Kj(vs:List AV)(k:Nat):Fr:=(vs.zipIdx k).map fun p=>(p.2,p.1)
theorem Tr{P:Nat→Prop}{ss:Ss}: ∀{r:List AL}{vs:List AV}{k:Nat},lW rv ss P H r vs→ ∀t φ,BD(U0 k r)t=some φ→k≤t∧FR rv ss P H φ(get(Kj vs k)t)
 |[],[],_,_,t,φ,e=>by simp[U0,BD]at e
 |ψ::r,v::vs,k,h,t,φ,e=>by
  simp only[U0,BD]at e
  simp only[Kj,List.zipIdx_cons,List.map_cons,get]
  split at e
  ·rename_i hk
   cases e
   subst hk
   exact⟨Nat.le_refl _,by rw[if_pos rfl];exact h.1⟩
  ·rename_i hk
   obtain⟨h1,h2⟩:=Tr(k:=k+1)h.2 t φ e
   exact⟨by omega,by rw[if_neg hk];exact h2⟩
def F9(J:Nat):Ts→Ss→Ss
 |[],ss=>ss
 |(t,φ)::r,ss=>(J+t, .ghost φ)::F9 J r ss
def Ol(Γ:Cx)(J:Nat):Ts→Prop
 |[]=>True
 |(t,φ)::r=>(BD Γ.ts t=some φ∧AG Γ.ss(J+t)=none)∧Ol Γ J r
def Ir(J:Nat):Ss→Bool
 |[]=>true
 |(j, .ghost _)::r=>Nat.blt j J&&Ir J r
 |_::r=>Ir J r
theorem Om{J:Nat}: ∀{ss:Ss}{j:Nat}{φ:AL},Ir J ss=true→AG ss j=some(.ghost φ)→j<J
 |[],_,_,_,e=>by simp[AG]at e
 |(u,S)::r,j,φ,h,e=>by
  simp only[AG]at e
  split at e
  ·rename_i hu
   cases e
   simp only[Ir,Bool.and_eq_true]at h
   have:=h.1
   rw[Tp]at this
   omega
  ·refine Om(ss:=r) ?_ e
   cases S<;>simp only[Ir,Bool.and_eq_true]at h<;>first|exact h.2|exact h
theorem K9{J:Nat}{ss:Ss}: ∀{l:Ts}{j:Nat},AG(F9 J l ss)j=AG ss j∨ ∃t φ,j=J+t∧BD l t=some φ∧AG(F9 J l ss)j=some(.ghost φ)
 |[],_=> .inl rfl
 |(t,φ)::r,j=>by
  simp only[F9,AG]
  by_cases hj:J+t=j
  ·rw[if_pos hj]
   exact .inr⟨t,φ,hj.symm,by simp[BD],rfl⟩
  ·rw[if_neg hj]
   rcases K9(J:=J)(ss:=ss)(l:=r)(j:=j)with h|⟨t',φ',h1,h2,h3⟩
   ·exact .inl h
   ·refine .inr⟨t',φ',h1,?_,h3⟩
    simp only[BD]
    rw[if_neg(fun e=>hj(by rw[h1,e]))]
    exact h2
theorem Lj{J:Nat}: ∀{l:Ts}{t:Nat}{φ:AL},Ol Γ J l→BD l t=some φ→BD Γ.ts t=some φ∧AG Γ.ss(J+t)=none
 |[],_,_,_,e=>by simp[BD]at e
 |(u,ψ)::r,t,φ,h,e=>by
  simp only[BD]at e
  split at e
  ·rename_i hu
   cases e
   subst hu
   exact h.1
  ·exact Lj h.2 e
theorem Bp.enter(I:Bp E Γ rv fp f H){J:Nat}{L:Ts}{srcs:List Yv}{φs:List AL}(hL:Ol Γ J L)(hg:Ir J Γ.ss=true)(ha:Zt tb Γ srcs φs):
  Bp{E with g:=fun j=>if J≤j then get f(j-J)else E.g j}⟨U0 0 φs,F9 J L Γ.ss⟩rv fp(Kj(srcs.map(fV tb f rv))0)H:=by
 have hlv: ∀k,Ba(F9 J L Γ.ss)k↔Ba Γ.ss k:=by
  intro k
  rcases K9(J:=J)(ss:=Γ.ss)(l:=L)(j:=k)with h|⟨t,φ,rfl,h2,h3⟩
  ·simp only[Ba,h]
  ·have:=(Lj hL h2).2
   simp only[Ba,h3,this,yN]
 have hkeep: ∀k,D8(AG(F9 J L Γ.ss)k)=D8(AG Γ.ss k):=by
  intro k
  rcases K9(J:=J)(ss:=Γ.ss)(l:=L)(j:=k)with h|⟨t,φ,rfl,h2,h3⟩
  ·rw[h]
  ·rw[h3,(Lj hL h2).2];rfl
 have hP: ∀i,Pf E Γ.ss fp H i→Pf E(F9 J L Γ.ss)fp H i:=fun i=>Pf.same fun k l=>(hlv k).1 l
 have hFR: ∀φ v,FR rv Γ.ss(Pf E Γ.ss fp H)H φ v→FR rv(F9 J L Γ.ss)(Pf E(F9 J L Γ.ss)fp H)H φ v:=fun φ v h=>
  h.mono(fun i hi=>⟨hP i hi,rfl⟩)fun k _ l=>⟨⟨(hlv k).2 l,fun e=>by rw[hkeep];exact e⟩,rfl⟩
 have hFRs: ∀{l:List AL}{vs:List AV},lW rv Γ.ss(Pf E Γ.ss fp H)H l vs→lW rv(F9 J L Γ.ss)(Pf E(F9 J L Γ.ss)fp H)H l vs:=by
  intro l
  induction l with
  |nil=>intro vs h;cases vs<;>exact h
  |cons φ l ih=>
   intro vs h
   cases vs with
   |nil=>exact h
   |cons v vs=>exact⟨hFR φ v h.1,ih h.2⟩
 refine⟨I.le,I.base,I.wf,fun j i l e=>I.fplt j i((hlv j).1 l)e,fun j l=>I.rvlt j((hlv j).1 l),fun j l=>(I.scal j((hlv j).1 l)).imp(fun e=>by rw[hkeep];exact e)id,fun j k i l l'=>I.inj j k i((hlv j).1 l)((hlv k).1 l'),?_,?_,?_⟩
 ·intro j S e
  rcases K9(J:=J)(ss:=Γ.ss)(l:=L)(j:=j)with h|⟨t,φ,rfl,h2,h3⟩
  ·replace e:AG(F9 J L Γ.ss)j=some S:=e
   rw[h]at e
   exact(I.slots j S e).keep rfl rfl(fun i hi=>⟨hP i hi,rfl⟩)(Nat.le_refl _)(fun _ _=>rfl)(fun _ _ _ _ k _ l=>⟨⟨(hlv k).2 l,fun e=>by rw[hkeep];exact e⟩,rfl⟩)(fun _ _ k _ l=>⟨⟨(hlv k).2 l,fun e=>by rw[hkeep];exact e⟩,rfl⟩)(fun _ _ _ k _ l=>⟨⟨(hlv k).2 l,fun e=>by rw[hkeep];exact e⟩,rfl⟩)
  ·replace e:AG(F9 J L Γ.ss)(J+t)=some S:=e
   rw[h3]at e;cases e;trivial
 ·intro t φ e
  exact(Tr(hFRs(ha.spec I))t φ e).2
 ·intro j φ e
  show FR rv(F9 J L Γ.ss)_ H φ(if J≤j then get f(j-J)else E.g j)
  rcases K9(J:=J)(ss:=Γ.ss)(l:=L)(j:=j)with h|⟨t,ψ,rfl,h2,h3⟩
  ·replace e:AG(F9 J L Γ.ss)j=some(.ghost φ):=e
   rw[h]at e
   have:=Om hg e
   rw[if_neg(by omega)]
   exact hFR φ _(I.gh j φ e)
  ·replace e:AG(F9 J L Γ.ss)(J+t)=some(.ghost φ):=e
   rw[h3]at e
   cases e
   rw[if_pos(by omega),show J+t-J=t by omega]
   exact hFR _ _(I.temps t _(Lj hL h2).1)
def QIn{τ:Type}(res:List KX)(Γr:τ→Cx):Mb τ:=fun E p e f H=>
 (e= .ret∨e= .normal)∧ ∃vs,results f H res=some vs∧fC E(Γr p)(Kj vs 0)H
def ResG(Γ:Cx)(a:KX)(φ:AL):Prop:= ∀E rv fp f H,Bp E Γ rv fp f H→ ∀r vs,results f H r=some vs→ ∃v,results f H(a::r)=some(v::vs)∧FR rv Γ.ss(Pf E Γ.ss fp H)H φ v
inductive pA(Γ:Cx):List KX→List AL→Prop where
 |nil:pA Γ [] []
 |cons{a:KX}{φ:AL}{l:List KX}{r:List AL}:ResG Γ a φ→pA Γ l r→pA Γ(a::l)(φ::r)
theorem pA.spec(I:Bp E Γ rv fp f H): ∀{l:List KX}{r:List AL},pA Γ l r→ ∃vs,results f H l=some vs∧lW rv Γ.ss(Pf E Γ.ss fp H)H r vs
 |_,_, .nil=>⟨[],rfl,trivial⟩
 |_,_, .cons h k=>by
  obtain⟨vs,e,g⟩:=k.spec I
  obtain⟨v,e',g'⟩:=h E rv fp f H I _ vs e
  exact⟨v::vs,e',g',g⟩
theorem rg_t{n:Nat}{φ:AL}(h:BD Γ.ts n=some φ):ResG Γ(.tmp n)φ:=fun _ _ _ _ _ I r vs hr=>⟨_,by simp only[results,hr,Option.map_some],I.temps n _ h⟩
variable {ks:List Kf}{ρ τ:Type}{Q:Mb ρ}
def Bl{res:List KX}{Γr:τ→Cx}{φs:List AL}(p:τ)(h:pA Γ res φs)(hs:uZ(Γr p)⟨U0 0 φs,Γ.ss⟩):Aa tb Γ .ret ks(QIn res Γr):=
 Yq⟨some p,fun E f H⟨rv,fp,I⟩r hr=>by
  cases hr
  obtain⟨vs,e,g⟩:=h.spec I
  refine⟨.ret,f,H,by simp[AX,IB], .inl rfl,vs,e,rv,fp,Bp.sub(Γ:=⟨U0 0 φs,Γ.ss⟩) ?_ hs⟩
  exact⟨I.le,I.base,I.wf,I.fplt,I.rvlt,I.scal,I.inj,I.slots,fun t φ e=>(Tr g t φ e).2,I.gh⟩⟩
def aV{q:Bool}{res:List KX}{Γr:τ→Cx}{φs:List AL}(p:τ)(h:pA Γ res φs)(hs:uZ(Γr p)⟨U0 0 φs,Γ.ss⟩):Aa tb Γ(rg q []) [](QIn res Γr):=
 ⟨some p,fun E f H⟨rv,fp,I⟩r hr=>by
  cases hr
  obtain⟨vs,e,g⟩:=h.spec I
  refine⟨.normal,f,H,by simp[Dy,IB], .inr rfl,vs,e,rv,fp,Bp.sub(Γ:=⟨U0 0 φs,Γ.ss⟩) ?_ hs⟩
  exact⟨I.le,I.base,I.wf,I.fplt,I.rvlt,I.scal,I.inj,I.slots,fun t φ e=>(Tr g t φ e).2,I.gh⟩⟩
inductive T3(tsr:Ts):Nat→AL→Prop where
 |none:T3 tsr 0(.tup [])
 |one{φ:AL}:BD tsr 0=some φ→T3 tsr 1 φ
 |vals{n:Nat}{l:List(Σ t:T,t.α)}(hn:l.length=n+2)(h: ∀(i:Nat)(p: Σ t:T,t.α),l[i]? =some p→BD tsr i=some(.val p.1 p.2)):T3 tsr(n+2)(.tup l)
 |kvs{n:Nat}{js:List Nat}(hn:js.length=n+2)(h: ∀i j,js[i]? =some j→BD tsr i=some(.kv j)):T3 tsr(n+2)(.tupk js)
 |junk{n:Nat}:T3 tsr n .junk
theorem PO{vs:List AV}{i:Nat}{v:AV}(h:vs[i]? =some v):get(Kj vs 0)i=v:=by
 have key: ∀(vs:List AV)(k i:Nat)(v:AV),vs[i]? =some v→get(Kj vs k)(k+i)=v:=by
  intro vs
  induction vs with
  |nil=>intro k i v h;simp at h
  |cons w vs ih=>
   intro k i v h
   simp only[Kj,List.zipIdx_cons,List.map_cons,get]
   cases i with
   |zero=>simp only[List.getElem?_cons_zero,Option.some.injEq]at h;rw[if_pos(by omega)];exact h
   |succ i=>
    rw[if_neg(by omega)]
    have:=ih(k+1)i v(by simpa using h)
    rw[show k+(i+1)=k+1+i by omega]
    exact this
 have:=key vs 0 i v h
 rwa [Nat.zero_add]at this
theorem T3.spec{Γr:Cx}{n:Nat}{φ:AL}{vs:List AV}(I:Bp E Γr rv fp(Kj vs 0)H)(hn:vs.length=n)(h:T3 Γr.ts n φ):FR rv Γr.ss(Pf E Γr.ss fp H)H φ(Gv vs):=by
 cases h with
 |none=>
  have:vs=[]:=List.eq_nil_of_length_eq_zero hn
  subst this
  exact⟨[],rfl,trivial⟩
 |one h=>
  match vs,hn with
  |[v],_=>
   have:=I.temps 0 _ h
   rw[PO(i:=0)(v:=v)rfl]at this
   exact this
 | @vals m l hl h=>
  have hp:Gv vs= .tup vs:=by
   match vs,hn with
   |_::_::_,_=>rfl
  rw[hp]
  refine⟨vs,rfl,?_⟩
  have key: ∀(vs:List AV)(l:List(Σ t:T,t.α)),vs.length=l.length→(∀(i:Nat)(v:AV)(p: Σ t:T,t.α),vs[i]? =some v→l[i]? =some p→p.1.V(Pf E Γr.ss fp H)H v p.2)→VW(Pf E Γr.ss fp H)H vs l:=by
   intro vs
   induction vs with
   |nil=>intro l h _;cases l<;>first|trivial|simp at h
   |cons v vs ih=>
    intro l h g
    cases l with
    |nil=>simp at h
    |cons p l=>exact⟨g 0 v p rfl rfl,ih l(by simpa using h)fun i w q a b=>g(i+1)w q(by simpa using a)(by simpa using b)⟩
  refine key vs l(by omega)fun i v p a b=> ?_
  have:=I.temps i _(h i p b)
  rw[PO a]at this
  exact this
 | @kvs m js hl h=>
  have hp:Gv vs= .tup vs:=by
   match vs,hn with
   |_::_::_,_=>rfl
  rw[hp]
  have hv:vs=js.map rv:=by
   apply List.ext_getElem?
   intro i
   rcases Nat.lt_or_ge i vs.length with hi|hi
   ·have hj:i<js.length:=by omega
    have:=(I.temps i _(h i js[i](List.getElem?_eq_getElem hj))).2
    rw[PO(List.getElem?_eq_getElem hi)]at this
    rw[List.getElem?_eq_getElem hi,List.getElem?_map,List.getElem?_eq_getElem hj,this];rfl
   ·rw[List.getElem?_eq_none hi,List.getElem?_eq_none(by rw[List.length_map];omega)]
  refine⟨fun j hj=> ?_,by rw[hv]⟩
  obtain⟨i,hi,rfl⟩:=List.mem_iff_getElem.1 hj
  exact(I.temps i _(h i _(List.getElem?_eq_getElem hi))).1 _(by simp)
 |junk=>trivial
def aM(Γr:Cx)(ss:Ss)(J:Nat):Ts→Prop
 |[]=>True
 |(t,φ)::r=>(AG Γr.ss(J+t)=some(.ghost φ)∧Mf ss φ)∧aM Γr ss J r
structure Cj(Γr Γk:Cx)(J:Nat)(d:Option Nat)(n:Nat):Prop where
 ss:vH Γr Γk.ss Γk.ss
 gl:Ir J Γk.ss=true
 ts:match d with
  |none=>aM Γr Γk.ss J Γk.ts
  |some d=> ∃φ r,Γk.ts=(d,φ)::r∧T3 Γr.ts n φ∧Mf Γk.ss φ∧aM Γr Γk.ss J r
theorem AZ{Γr:Cx}{ss:Ss}{J d n:Nat}{φ:AL}{r:Ts}(h1:vH Γr ss ss)(h2:Ir J ss=true)(h3:T3 Γr.ts n φ)(h4:Mf ss φ)(h5:aM Γr ss J r):Cj Γr⟨(d,φ)::r,ss⟩J(some d)n:=⟨h1,h2,φ,r,rfl,h3,h4,h5⟩
theorem Yi{Γr:Cx}{ss:Ss}{J:Nat}: ∀{l:Ts}{t:Nat}{φ:AL},aM Γr ss J l→BD l t=some φ→AG Γr.ss(J+t)=some(.ghost φ)∧Mf ss φ
 |[],_,_,_,e=>by simp[BD]at e
 |(u,ψ)::r,t,φ,h,e=>by
  simp only[BD]at e
  split at e
  ·rename_i hu;cases e;subst hu;exact h.1
  ·exact Yi h.2 e
theorem Bp.back{Γr Γk:Cx}{J n:Nat}{d:Option Nat}{vs:List AV}{f:Fr}(I:Bp{E with g:=fun j=>if J≤j then get f(j-J)else E.g j}Γr rv fp(Kj vs 0)H)(hn:vs.length=n)(hb:Cj Γr Γk J d n):
  Bp E Γk rv fp(put f d(Gv vs))H:=by
 have S:uZ⟨[],Γk.ss⟩Γr:=⟨trivial,hb.ss⟩
 have I0:=I.sub S
 have hlv: ∀k,Ba Γk.ss k→Ba Γr.ss k:=by
  intro k l
  cases e:AG Γk.ss k with
  |none=>simp only[Ba,e]at l;exact l.elim
  |some S=>
   have:=(IL hb.ss e).1
   simp only[Ba,e]at l
   simp only[Ba,this];exact l
 have hP: ∀i,Pf E Γr.ss fp H i→Pf E Γk.ss fp H i:=fun i=>Pf.same hlv
 have hsame: ∀φ,Mf Γk.ss φ→U5 rv rv Γr.ss Γk.ss φ:=fun φ r j hj l=>by
  have hl:=(WV r j hj).1
  refine⟨⟨hl,fun e=> ?_⟩,rfl⟩
  cases e':AG Γk.ss j with
  |none=>simp only[Ba,e']at hl;exact hl.elim
  |some S=>rw[(IL hb.ss e').1]at e;exact e
 have hFR: ∀φ v,Mf Γk.ss φ→FR rv Γr.ss(Pf E Γr.ss fp H)H φ v→FR rv Γk.ss(Pf E Γk.ss fp H)H φ v:=fun φ v r h=>h.mono(fun i hi=>⟨hP i hi,rfl⟩)(hsame φ r)
 have hback: ∀{l:Ts},aM Γr Γk.ss J l→ ∀t φ,BD l t=some φ→FR rv Γk.ss(Pf E Γk.ss fp H)H φ(get f t):=by
  intro l hl t φ e
  obtain⟨h1,h2⟩:=Yi hl e
  have:=I.gh _ _ h1
  simp only[if_pos(show J≤J+t by omega),show J+t-J=t by omega]at this
  exact hFR φ _ h2 this
 refine⟨I0.le,I0.base,I0.wf,I0.fplt,I0.rvlt,I0.scal,I0.inj,I0.slots,?_,?_⟩
 ·intro t φ e
  have hts:=hb.ts
  cases d with
  |none=>exact hback hts t φ e
  |some d=>
   obtain⟨ψ,r,hr,h1,h2,h3⟩:=hts
   rw[hr]at e
   simp only[BD]at e
   simp only[put,get]
   split at e
   ·rename_i hd
    cases e
    rw[if_pos hd]
    have h1':=h1.spec I hn
    exact hFR _ _ h2 h1'
   ·rename_i hd
    rw[if_neg hd]
    exact hback h3 t φ e
 ·intro j φ e
  have h1:=Om hb.gl e
  have:=I0.gh j φ e
  simp only[if_neg(show¬J≤j by omega)]at this
  exact this
structure pD(tb:CZ){τ:Type}(Γk:τ→Cx)(c:AC)(ks:List Kf){ρ:Type}(Q:Mb ρ)where
 m:τ→Option ρ
 ok: ∀p E f H,fC E(Γk p)f H→ ∀r,m p=some r→ ∃e f' H',(AX tb(Ck tb)c f H).bind(IB tb ks)=some(e,f',H')∧Q E r e f' H'
def pD.one{Γk:τ→Cx}{c:AC}(k:(p:τ)→Aa tb(Γk p)c ks Q):pD tb Γk c ks Q:=⟨fun p=>(k p).m,fun p=>(k p).ok⟩
def pD.alt{σ:Type}{Γ1:τ→Cx}{Γ2:σ→Cx}{c:AC}(k1:pD tb Γ1 c ks Q)(k2:pD tb Γ2 c ks Q):pD tb(Sum.elim Γ1 Γ2)c ks Q:=
 ⟨Sum.elim k1.m k2.m,fun p=>match p with
  | .inl p=>k1.ok p
  | .inr p=>k2.ok p⟩
theorem MG{σ:Type}{Γ1 Δ1:τ→Cx}{Γ2 Δ2:σ→Cx}{J n:Nat}{d:Option Nat}(h1: ∀p,Cj(Γ1 p)(Δ1 p)J d n)(h2: ∀p,Cj(Γ2 p)(Δ2 p)J d n): ∀p,Cj(Sum.elim Γ1 Γ2 p)(Sum.elim Δ1 Δ2 p)J d n
 | .inl p=>h1 p
 | .inr p=>h2 p
theorem P2: ∀{l:List KX}{vs:List AV},results f H l=some vs→vs.length=l.length
 |[],vs,h=>by simp only[results,Option.some.injEq]at h;subst h;rfl
 | .tmp t::r,vs,h=>by
  simp only[results]at h
  obtain⟨v,hv,rfl⟩:=Option.map_eq_some_iff.1 h
  simp[P2 hv]
 | .cell ag n t::r,vs,h=>by
  simp only[results]at h
  obtain⟨w,hw,h⟩:=Option.bind_eq_some_iff.1 h
  obtain⟨v,hv,rfl⟩:=Option.map_eq_some_iff.1 h
  simp[P2 hv]
theorem yZ{g:Nat}{fn:CM}{o:HT}{d:Option Nat}{srcs:List Yv}{φs:List AL}{J n:Nat}{L:Ts}{Γr Γk:τ→Cx}(hf:tb.prim g=none∧tb.fns g=some fn)(hw:fn.warm=true)(hnp:fn.np=srcs.length)(hn:n=fn.res.length)
  (hc:T2 tb Γ o g srcs)(ha:Zt tb Γ srcs φs)(hL:Ol Γ J L)(hg:Ir J Γ.ss=true)(s:Aa tb⟨U0 0 φs,F9 J L Γ.ss⟩fn.body [](QIn fn.res Γr))(hb: ∀p,Cj(Γr p)(Γk p)J d n)(I:Bp E Γ rv fp f H){p:τ}(hp:s.m=some p):
  ∃v H',Bq tb(Ck tb)(eval tb f)H o=some(v,some H')∧fC E(Γk p)(put f d v)H':=by
 have R:=I.enter(tb:=tb)hL hg ha
 obtain⟨e,f',H',h1,h2,vs,h3,rv',fp',h4⟩:=s.ok _ _ _⟨_,_,R⟩p hp
 have h1':AX tb(Ck tb)fn.body(Kj(srcs.map(fV tb f rv))0)H=some(e,f',H'):=by
  obtain⟨q,hq,h1⟩:=Option.bind_eq_some_iff.1 h1
  rw[hq,←h1];rfl
 have hbody:body tb(Ck tb)fn(srcs.map(fV tb f rv))H=some(Gv vs,some H'):=by
  have:=ON(tb:=tb)(h:=H)(fn:=fn)(args:=srcs.map(fV tb f rv))(by rw[List.length_map,hnp])rfl h1' h2 h3
  rw[this,hw];rfl
 refine⟨Gv vs,H',?_,rv',fp',h4.back(by rw[hn];exact P2 h3)(hb p)⟩
 rw[hc E rv fp f H I]
 simp only[B3,hf.1]
 rw[PS,hf.2]
 exact hbody
def Aa.inl{g:Nat}{fn:CM}{o:HT}{d:Option Nat}{rest:List AU}{srcs:List Yv}{φs:List AL}{n:Nat}{L:Ts}{Γr:τ→Cx}(J:Nat)(Γk:τ→Cx)(hf:tb.prim g=none∧tb.fns g=some fn)(hw:fn.warm=true)(hnp:fn.np=srcs.length)(hn:n=fn.res.length)
  (hc:T2 tb Γ o g srcs)(ha:Zt tb Γ srcs φs)(hL:Ol Γ J L)(hg:Ir J Γ.ss=true)(s:Aa tb⟨U0 0 φs,F9 J L Γ.ss⟩fn.body [](QIn fn.res Γr))(hb: ∀p,Cj(Γr p)(Γk p)J d n)(k:pD tb Γk(rg false rest)ks Q):Aa tb Γ(rg false(⟨d,none,o⟩::rest))ks Q:=
 ⟨s.m.bind k.m,fun E f H⟨rv,fp,I⟩r hr=>by
  obtain⟨p,hp,hr⟩:=Option.bind_eq_some_iff.1 hr
  obtain⟨v,H',h1,h2⟩:=yZ hf hw hnp hn hc ha hL hg s hb I hp
  obtain⟨e,f',H2,h4,h5⟩:=k.ok p E _ _ h2 r hr
  exact⟨e,f',H2,by rw[Kk h1];exact h4,h5⟩⟩
def A9.inl{g:Nat}{fn:CM}{o:HT}{d:Option Nat}{rest:List AU}{w:List(Option(Nat×Nat))}{N k:Nat}{B:List Ob}{C C':List Cb}{srcs:List Yv}{φs:List AL}{n:Nat}{L:Ts}{Γr:τ→Cx}(hq:lJ B C' d=true)(hcn:Kd Γ k C C')(J:Nat)(Γk:τ→Cx)(hO: ∀p,VX tb(Γk p)B)(hf:tb.prim g=none∧tb.fns g=some fn)(hw:fn.warm=true)(hnp:fn.np=srcs.length)(hn:n=fn.res.length)
  (hc:T2 tb Γ o g srcs)(ha:Zt tb Γ srcs φs)(hL:Ol Γ J L)(hg:Ir J Γ.ss=true)(s:Aa tb⟨U0 0 φs,F9 J L Γ.ss⟩fn.body [](QIn fn.res Γr))(hb: ∀p,Cj(Γr p)(Γk p)J d n)(t:(p:τ)→A9 tb(Γk p)N(k+1)(eO B)C' rest w ks Q):A9 tb Γ N k B C(⟨d,none,o⟩::rest)(none::w)ks Q:=
 DF hq hO hcn(a:=s.m)(Γ':=Γk)(fun E rv fp f H I p hp=>by
  obtain⟨v,H',h1,rv',fp',h2⟩:=yZ hf hw hnp hn hc ha hL hg s hb I hp
  exact⟨v,some H',h1,rv',fp',h2⟩)t
structure Ys(tb:CZ){τ:Type}(Γk:τ→Cx)(N k:Nat)(B:List Ob)(C:List Cb)(l:List AU)(w:List(Option(Nat×Nat)))(ks:List Kf){ρ:Type}(Q:Mb ρ)where
 m:τ→Option ρ
 ok: ∀p E f H,fC E(Γk p)f H→ ∀ms,lV f B ms→ ∀es,CR f C es→ ∀r,m p=some r→ ∃q e f' H',Gw tb(Ck tb)N k ms es l w f H q∧IB tb ks(.normal,q.1,q.2)=some(e,f',H')∧Q E r e f' H'
def Ys.one{Γk:τ→Cx}{N k:Nat}{B:List Ob}{C:List Cb}{l:List AU}{w:List(Option(Nat×Nat))}(t:(p:τ)→A9 tb(Γk p)N k B C l w ks Q):Ys tb Γk N k B C l w ks Q:=⟨fun p=>(t p).m,fun p=>(t p).ok⟩
def Ys.alt{σ:Type}{Γ1:τ→Cx}{Γ2:σ→Cx}{N k:Nat}{B:List Ob}{C:List Cb}{l:List AU}{w:List(Option(Nat×Nat))}(k1:Ys tb Γ1 N k B C l w ks Q)(k2:Ys tb Γ2 N k B C l w ks Q):Ys tb(Sum.elim Γ1 Γ2)N k B C l w ks Q:=
 ⟨Sum.elim k1.m k2.m,fun p=>match p with
  | .inl p=>k1.ok p
  | .inr p=>k2.ok p⟩
def uW{g:Nat}{fn:CM}{o:HT}{d:Option Nat}{rest:List AU}{w:List(Option(Nat×Nat))}{N k:Nat}{B:List Ob}{C C':List Cb}{srcs:List Yv}{φs:List AL}{n:Nat}{L:Ts}{Γr:τ→Cx}(hq:lJ B C' d=true)(hcn:Kd Γ k C C')(J:Nat)(Γk:τ→Cx)(hO: ∀p,VX tb(Γk p)B)(hf:tb.prim g=none∧tb.fns g=some fn)(hw:fn.warm=true)(hnp:fn.np=srcs.length)(hn:n=fn.res.length)
  (hc:T2 tb Γ o g srcs)(ha:Zt tb Γ srcs φs)(hL:Ol Γ J L)(hg:Ir J Γ.ss=true)(s:Aa tb⟨U0 0 φs,F9 J L Γ.ss⟩fn.body [](QIn fn.res Γr))(hb: ∀p,Cj(Γr p)(Γk p)J d n)(t:Ys tb Γk N(k+1)(eO B)C' rest w ks Q):A9 tb Γ N k B C(⟨d,none,o⟩::rest)(none::w)ks Q:=
 ⟨s.m.bind t.m,(A9.inl hq hcn J Γk hO hf hw hnp hn hc ha hL hg s hb fun p=>⟨t.m p,t.ok p⟩).ok⟩
inductive fB(tb:CZ)(Γ:Cx):(As:List T)→List Yv→BU As→Prop where
 |nil:fB tb Γ [] []()
 |one{t:T}{s:Yv}{x:t.α}:OpS tb Γ s(.val t x)→fB tb Γ [t] [s]x
 |cons{t u:T}{As:List T}{s:Yv}{l:List Yv}{x:t.α}{y:BU(u::As)}:OpS tb Γ s(.val t x)→fB tb Γ(u::As)l y→fB tb Γ(t::u::As)(s::l)(x,y)
theorem fB.spec(R:Bp E Γ rv fp f H): ∀{As:List T}{l:List Yv}{x:BU As},fB tb Γ As l x→Vj(Pf E Γ.ss fp H)H As(l.map(fV tb f rv))x
 |_,_,_, .nil=>rfl
 |_,_,_, .one h=>⟨_,rfl,h E rv fp f H R⟩
 |_,_,_, .cons h k=>⟨_,_,rfl,h E rv fp f H R,k.spec R⟩
theorem qM{g:Nat}{As Rs:List T}{F:BU As→Option(BU Rs)}{o:HT}{l:List Yv}{x:BU As}(sp:AH tb g As Rs F)(hc:T2 tb Γ o g l)(hx:fB tb Γ As l x):F1 tb Γ o(F x)fun r=>wQ Rs r:=by
 intro E rv fp f H R r hr
 obtain⟨v,u,h1,h2,h3⟩:=(sp(Pf E Γ.ss fp H)H _ x R.ltP R.wf(hx.spec R)r hr).call
 exact⟨v,u,by rw[hc E rv fp f H R];exact h1,h2,Xc h3⟩
theorem PL{g:Nat}{As:List T}{t:T}{F:BU As→Option(BU [t])}{o:HT}{l:List Yv}{x:BU As}(sp:AH tb g As [t]F)(hc:T2 tb Γ o g l)(hx:fB tb Γ As l x):F1 tb Γ o(F x)fun r:t.α=> .val t r:=qM sp hc hx
theorem K8{g:Nat}{As:List T}{t u:T}{Rs:List T}{F:BU As→Option(BU(t::u::Rs))}{o:HT}{l:List Yv}{x:BU As}(sp:AH tb g As(t::u::Rs)F)(hc:T2 tb Γ o g l)(hx:fB tb Γ As l x):F1 tb Γ o(F x)fun r=> .tup(rS(t::u::Rs)r):=qM sp hc hx
end
end Go.Proofs.YtobejhpigbllpaaGreatDoor.Am
namespace Go.Proofs.YtobejhpigbllpaaGreatDoor.Am
section
variable {tb:CZ}{Γ:Cx}{a b:AO}{E:Pr}{rv:Nat→AV}{fp:Fp}{f:Fr}{H:Av}{ks:List Kf}{ρ:Type}{Q:Mb ρ}
end
end Go.Proofs.YtobejhpigbllpaaGreatDoor.Am
namespace Go.Proofs.YtobejhpigbllpaaGreatDoor.Am
theorem WM{tb:CZ}{q:Bool}{g:Nat}{w:Bool}{R:List AU}: ∀{l:List AU}{f:Fr}{H:Av},get f g= .b w→g∉E4 l→AX tb(Ck tb)(rg q(l.map(gd g w)++R))f H=AX tb(Ck tb)(rg q(l++R))f H
 |[],_,_,_,_=>rfl
 |o::l,f,H,h,hn=>by
  have hd:o.d≠some g:=fun e=>hn(by simp[E4,e])
  have hn':g∉E4 l:=fun e=>hn(by
   simp only[E4,List.filterMap_cons]at e ⊢
   cases o.d<;>simp[e])
  have hwt:wanted f(gd g w o).g=wanted f o.g:=by
   cases ho:o.g with
   |none=>simp[gd,ho,wanted,h]
   |some p=>simp[gd,ho]
  have hoo:(gd g w o).o=o.o:=by cases ho:o.g<;>simp[gd,ho]
  have hod:(gd g w o).d=o.d:=by cases ho:o.g<;>simp[gd,ho]
  have ih: ∀v H',AX tb(Ck tb)(rg q(l.map(gd g w)++R))(put f o.d v)H'=AX tb(Ck tb)(rg q(l++R))(put f o.d v)H':=fun v H'=>WM(by rw[Gt(w:=w)hd];exact h)hn'
  cases q with
  |true=>
   have ih': ∀v H',Ih tb(Ck tb)H'(l.map(gd g w)++R)(put f o.d v)=Ih tb(Ck tb)H'(l++R)(put f o.d v):=fun v H'=>by
    have:=ih v H'
    simp only[rg,if_true,AX]at this
    cases h1:Ih tb(Ck tb)H'(l.map(gd g w)++R)(put f o.d v)<;>cases h2:Ih tb(Ck tb)H'(l++R)(put f o.d v)<;>simp_all
   simp only[rg,if_true,AX,List.map_cons,List.cons_append,Ih,hwt,hoo,hod,ih']
  |false=>
   have ih': ∀v H',ops tb(Ck tb)(l.map(gd g w)++R)(put f o.d v)H'=ops tb(Ck tb)(l++R)(put f o.d v)H':=fun v H'=>by
    have:=ih v H'
    simp only[rg,Bool.false_eq_true,if_false,AX]at this
    cases h1:ops tb(Ck tb)(l.map(gd g w)++R)(put f o.d v)H'<;>cases h2:ops tb(Ck tb)(l++R)(put f o.d v)H'<;>simp_all [Prod.ext_iff]
   simp only[rg,Bool.false_eq_true,if_false,AX,List.map_cons,List.cons_append,ops,hwt,hoo,hod,ih']
section
variable {tb:CZ}{Γ:Cx}{a b:AO}{ks:List Kf}{ρ:Type}{Q:Mb ρ}
def Aa.andI{q:Bool}{L l rest:List AU}{g t d:Nat}{b:Bool}(Γk:Cx)(n:Nat)(og:BD Γ.ts g=some(.val T.b b))(h:KI g true n L=some(l,⟨some d,none, .pick(.t g)(.t t)(.k(.b false))⟩::rest))(hc:VQ g l Γ.ts=true)(hs: ∀z,uZ(Γk.push d(.val T.b z))(Γ.push d(.val T.b z)))
  (k:(z:Bool)→Aa tb(Γk.push d(.val T.b z))(rg q rest)ks Q)
  (main:((z:Bool)→Aa tb(Γk.push d(.val T.b z))(rg q rest)ks Q)→Aa tb(Γ.push g(.val T.b true))(rg q(l++⟨some d,none, .pick(.t g)(.t t)(.k(.b false))⟩::rest))ks Q):Aa tb Γ(rg q L)ks Q:=
 ⟨if b=true then(main k).m else(k false).m,fun E f H⟨rv,fp,I⟩r hr=>by
  have hL:=Hf h
  simp only[VQ,Bool.and_eq_true,Bool.not_eq_true']at hc
  obtain⟨hc1,hc2,hc3⟩:=hc
  have hg:=Gg.1(I.temps g _ og)
  have hng:=JQ hc2
  cases b with
  |true=>
   obtain⟨e,f',H',h4,h5⟩:=(main k).ok E f H⟨rv,fp,I.le,I.base,I.wf,I.fplt,I.rvlt,I.scal,I.inj,I.slots,fun u φ e=>by
    simp only[Cx.push,BD]at e
    split at e
    ·rename_i hu;cases e;subst hu;exact Gg.2 hg
    ·exact I.temps u φ e,I.gh⟩r(by simpa using hr)
   exact⟨e,f',H',by rw[hL,WM hg hng];exact h4,h5⟩
  |false=>
   obtain⟨f',h1,h2⟩:=Qb(tb:=tb)(q:=q)(w:=true)(H:=H)hg hng hc1(by simp)
   have hp:Bq tb(Ck tb)(eval tb f')H(.pick(.t g)(.t t)(.k(.b false)))=some(.b false,none):=by
    simp only[Bq,eval,h2 g hng,hg];rfl
   have I':Bp E Γ rv fp f' H:=I.fr fun u φ e=>h2 u(IK hc3 e)
   obtain⟨e,f2,H2,h4,h5⟩:=(k false).ok E _ H⟨rv,fp,(WZ I').sub(hs _)⟩r(by simpa using hr)
   exact⟨e,f2,H2,by rw[hL,Fy h1,EA hp rfl];exact h4,h5⟩⟩
theorem dT{n:Nat}{t:T}{zero:List AV}{ps:List(Nat×Nat×AO)}(z:Ar t.α n)(hz:zero=(Ay n t).zc)(h:pF tb Γ(Ay n t)ps(Ay n t).z z):F1 tb Γ(.bld zero ps)(some())fun _=> .val(Ay n t)z:=by
 rintro E rv fp f H R _⟨⟩
 exact C1 hz rfl h E rv fp f H R z rfl
theorem N4{sz:Nat}: ∀{l:List(List AV)}{i:Nat},(∀e∈l,e.length=sz)→i≤l.length→l.flatten.take(i*sz)=(l.take i).flatten∧l.flatten.drop(i*sz)=(l.drop i).flatten
 |l,0,_,_=>by simp
 |[],i+1,_,h=>by simp at h
 |d::l,i+1,hl,h=>by
  have h1:=hl d List.mem_cons_self
  obtain⟨a,b⟩:=N4(l:=l)(i:=i)(fun e he=>hl e(List.mem_cons_of_mem _ he))(by simpa using h)
  have hs:(i+1)*sz=d.length+i*sz:=by rw[Nat.succ_mul];omega
  constructor
  ·rw[List.flatten_cons,hs,List.take_append,List.take_of_length_le(by omega),Nat.add_sub_cancel_left,a];simp
  ·rw[List.flatten_cons,hs,←List.drop_drop,List.drop_left' rfl,b];simp
theorem nX{sz k m:Nat}{l:List(List AV)}(hl: ∀e∈l,e.length=sz)(h:k+m≤l.length):sub l.flatten(k*sz)(m*sz)=((l.drop k).take m).flatten:=by
 simp only[sub]
 rw[(N4 hl(i:=k)(by omega)).2,(N4(fun e he=>hl e(List.mem_of_mem_drop he))(i:=m)(by rw[List.length_drop];omega)).1]
theorem jW{sz:Nat}{l:List(List AV)}(hl: ∀e∈l,e.length=sz):l.flatten.length=l.length*sz:=by
 induction l with
 |nil=>simp
 |cons d l ih=>
  have:=ih fun e he=>hl e(List.mem_cons_of_mem _ he)
  have:=hl d List.mem_cons_self
  simp only[List.flatten_cons,List.length_append,List.length_cons,Nat.succ_mul];omega
theorem dX{sz i:Nat}{l dss:List(List AV)}(hl: ∀e∈l,e.length=sz)(hd: ∀e∈dss,e.length=sz)(h:i+dss.length≤l.length):By l.flatten(i*sz)dss.flatten=(l.take i++dss++l.drop(i+dss.length)).flatten:=by
 simp only[By,List.flatten_append]
 rw[(N4 hl(i:=i)(by omega)).1,jW hd,←Nat.add_mul,(N4 hl(i:=i+dss.length)h).2]
def U7(n:Nat)(t:T)(k m:Nat)(hkm:k+m≤n):AM(Ay n t)(Ay m t)(k*t.sz)where
 get:=fun x=>⟨(x.l.drop k).take m,by rw[List.length_take,List.length_drop,x.len];omega⟩
 put:=fun x y=>⟨x.l.take k++y.l++x.l.drop(k+m),by rw[List.length_append,List.length_append,List.length_take,List.length_drop,x.len,y.len];omega⟩
 le:=by
  show k*t.sz+m*t.sz≤n*t.sz
  rw[←Nat.add_mul];exact Nat.mul_le_mul_right _ hkm
 getR:=fun{P H cs x}⟨css,e,h⟩=>by
  refine⟨(css.drop k).take m,?_,h.drop.take⟩
  have hlen:=h.length
  have hx:=x.len
  rw[e]
  exact nX h.lens(by omega)
 putR:=fun{P H cs x c y}⟨css,e,h⟩⟨dss,e',h'⟩=>by
  refine⟨css.take k++dss++css.drop(k+m),?_,(h.take.app h').app h.drop⟩
  have hlen:=h.length
  have hx:=x.len
  have hlen':=h'.length
  have hy:=y.len
  rw[e,e']
  have:=dX(dss:=dss)h.lens h'.lens(i:=k)(by omega)
  rw[this,show dss.length=m by omega]
theorem dS{j off n sz:Nat}{ps:List(Nat×AL)}{lo hi:Option AO}{l h:Option Int}(hj:AG Γ.ss j=some(.cells ps))(hle:Nat.ble(off+n*sz)(UB ps)=true)(ha:CA tb Γ a(.cp j off))(hl:uX tb Γ lo l)(hh:uX tb Γ hi h):
  F1 tb Γ(.sla n sz a lo hi)(T4 n l h)fun p=> .oc j(off+p.1*sz)sz(p.2-p.1):=by
 intro E rv fp f H I p hp
 obtain⟨lv,id,e,hv⟩:=ha E rv fp f H I
 obtain⟨cs,h0,h2,h3⟩:=Gc I hj e
 have hs:=PR.length h3
 have hle:=Nat.le_of_ble_eq_true hle
 refine⟨.ocel sz id(off+p.1*sz)(p.2-p.1),none,?_,rfl,lv,id,e,rfl⟩
 simp only[Bq,hv]
 rw[Uw hl hh I,hp]
 simp only[Option.bind_some,rG,h2]
 rw[if_pos(by omega)]
 rfl
theorem Ok{j off n sz k m o' c:Nat}{ps:List(Nat×AL)}{lo hi:Option AO}{l h:Option Int}(hj:AG Γ.ss j=some(.cells ps))(hle:Nat.ble(off+n*sz)(UB ps)=true)(ha:CA tb Γ a(.cp j off))(hl:uX tb Γ lo l)(hh:uX tb Γ hi h)
  (hb:T4 n l h=some(k,m))(ho:off+k*sz=o')(hc:m-k=c):F1 tb Γ(.sla n sz a lo hi)(some())fun _=> .oc j o' sz c:=by
 rintro E rv fp f H I _⟨⟩
 subst ho hc
 exact dS hj hle ha hl hh E rv fp f H I(k,m)hb
theorem uP{n:Nat}{h:Option Int}{p:Nat×Nat}(e:T4 n none h=some p):p.1=0∧p.2≤n:=by
 have h2:=(AaC e).2
 unfold T4 at e
 obtain⟨u,hu,e⟩:=Option.bind_eq_some_iff.1 e
 obtain⟨l,hl,e⟩:=Option.bind_eq_some_iff.1 e
 cases hl
 cases e
 exact⟨rfl,h2⟩
theorem nU{j off n sz:Nat}{ps:List(Nat×AL)}{hi:Option AO}{h:Option Int}(hj:AG Γ.ss j=some(.cells ps))(hle:Nat.ble(off+n*sz)(UB ps)=true)(ha:CA tb Γ a(.cp j off))(hh:uX tb Γ hi h):
  F1 tb Γ(.sla n sz a none hi)((T4 n none h).map fun p=>p.2)fun m=> .oc j off sz m:=by
 intro E rv fp f H I m hm
 obtain⟨p,hp,rfl⟩:=Option.map_eq_some_iff.1 hm
 have:=dS hj hle ha .none hh E rv fp f H I p hp
 simp only[(uP hp).1,Nat.zero_mul,Nat.add_zero,Nat.sub_zero]at this
 exact this
theorem zD{j off len sz n:Nat}(ha:CA tb Γ a(.oc j off sz len))(hn:Nat.ble n len=true):F1 tb Γ(.s2a n sz a)(some())fun _=> .cp j off:=by
 rintro E rv fp f H I _⟨⟩
 obtain⟨lv,id,e,hv⟩:=ha E rv fp f H I
 have hn:=Nat.le_of_ble_eq_true hn
 exact⟨.ptr id off,none,by simp only[Bq,hv,rH];rw[if_pos⟨trivial,hn⟩];rfl,rfl,lv,id,e,rfl⟩
theorem h_lenC{j off len sz:Nat}(ha:CA tb Γ a(.oc j off sz len)):F1 tb Γ(.len a)(some(len:Int))fun n=> .val(T.int .i64)n:=by
 rintro E rv fp f H I _⟨⟩
 obtain⟨lv,id,e,hv⟩:=ha E rv fp f H I
 exact⟨.i .i64 len,none,by simp only[Bq,hv,PG,Option.map_some],rfl,Ca.2 rfl⟩
theorem h_iasC{j off len sz:Nat}{k:IntKind}{i:Int}{ps:List(Nat×AL)}(hj:AG Γ.ss j=some(.cells ps))(hle:off+len*sz≤UB ps)(ha:CA tb Γ a(.oc j off sz len))(hb:CA tb Γ b(.val(T.int k)i)):
  F1 tb Γ(.ias sz a b)(DU len i)fun m=> .cp j(off+m*sz):=by
 intro E rv fp f H I m hm
 obtain⟨h0,rfl,h1⟩:=ZR hm
 obtain⟨lv,id,e,hv⟩:=ha E rv fp f H I
 obtain⟨cs,g0,g2,g3⟩:=Gc I hj e
 have hs:=PR.length g3
 have hcl: ∀(n:Nat)(l:List AV),(BR sz n l).length=n:=by
  intro n
  induction n with
  |zero=>intro l;rfl
  |succ n ih=>intro l;simp[BR,ih]
 refine⟨.ptr id(off+i.toNat*sz),none,?_,rfl,lv,id,e,rfl⟩
 simp only[Bq,hv,Ca.1(hb E rv fp f H I),HW,Option.bind_some,if_pos h0,UO,Ez,g2]
 rw[if_pos⟨trivial,by omega⟩]
 simp only[Option.bind_some,hcl]
 rw[if_pos(by omega)]
 rfl
theorem IE{j off len sz:Nat}{k:IntKind}{i:Int}{ps:List(Nat×AL)}(N:Nat)(hj:AG Γ.ss j=some(.cells ps))(hN:N=UB ps)(ha:CA tb Γ a(.oc j off sz len))(hb:CA tb Γ b(.val(T.int k)i)):
  F1 tb Γ(.ias sz a b)(if off+len*sz≤N then DU len i else none)fun m=> .cp j(off+m*sz):=by
 intro E rv fp f H I m hm
 split at hm
 ·rename_i hle
  exact h_iasC hj(hN▸hle)ha hb E rv fp f H I m hm
 ·cases hm
theorem Bp.learn{E:Pr}{rv:Nat→AV}{fp:Fp}{f:Fr}{H:Av}(I:Bp E Γ rv fp f H){d:Nat}{φ:AL}(h:FR rv Γ.ss(Pf E Γ.ss fp H)H φ(get f d)):Bp E(Γ.push d φ)rv fp f H:=
 ⟨I.le,I.base,I.wf,I.fplt,I.rvlt,I.scal,I.inj,I.slots,fun t ψ e=>by
  simp only[Cx.push,BD]at e
  split at e
  ·rename_i hd;cases e;subst hd;exact h
  ·exact I.temps t ψ e,I.gh⟩
def zN{α:Type}(l:List α)(k m n:Nat):Option(GS α):=if k+m≤n then some(.mk((l.drop k).take m))else none
theorem Bp.frzSl{E:Pr}{rv:Nat→AV}{fp:Fp}{f:Fr}{H:Av}(I:Bp E Γ rv fp f H){j N o k m n sz d:Nat}{t u:T}{x:t.α}{g:GS u.α}(F:AM t(Ay n u)o)(hsz:sz=u.sz)(hj:AG Γ.ss j=some(.cells [(N, .val t x)]))(hn:Nat.blt j cT=true)
  (hd:BD Γ.ts d=some(.oc j(o+k*sz)sz m))(hg:zN(F.get x).l k m n=some g):Bp E((Γ.turn j(eS t x)).push d(.val(T.sl u)g))rv fp f H:=by
 have hlj:Ba Γ.ss j:=Lh hj rfl
 have hs:=I.slots j _ hj
 obtain⟨_,id,e,hv⟩:=I.temps d _ hd
 obtain⟨id',cs,h3,h0,h4,c,e',h5,h6,h7,h8⟩:=hs
 rw[e]at h3
 cases h3
 have h8':e'=[]:=h8
 subst h8'
 simp only[List.append_nil]at h5
 subst h5
 simp only[zN]at hg
 split at hg
 ·rename_i hkm
  cases hg
  have hlen:=t.len h7
  have hle:=F.le
  have J:=I.frzCell hj hn
  have hlv: ∀k,Ba(Γ.turn j(eS t x)).ss k↔k≠j∧Ba Γ.ss k:=Qt
  subst hsz
  have hk:=(h0 id).2 rfl
  have hPid:Pf E(Γ.turn j(eS t x)).ss fp H id:=Pf.gone I hlj hk(fun k lk=>(hlv k).1 lk)(I.new hlj hn id hk)
  have hr:=t.mono(G:=H)(fun i hi=>⟨Pf.same(ss':=(Γ.turn j(eS t x)).ss)(fun k l=>((hlv k).1 l).2)hi,rfl⟩)h7
  obtain⟨css,e1,e2⟩:=F.getR hr
  have hszA:(Ay n u).sz=n*u.sz:=rfl
  have hwhole:Ty u(Pf E(Γ.turn j(eS t x)).ss fp H)H(.ocel u.sz id o n)(.mk(F.get x).l):=by
   refine⟨hPid,css,?_,e2⟩
   simp only[Ez,h4,Option.bind_some]
   rw[if_pos⟨trivial,by omega⟩]
   congr 1
   have key: ∀(k:Nat)(css:List(List AV))(cs:List AV),css.length=k→(∀e∈css,e.length=u.sz)→cs.take(k*u.sz)=css.flatten→BR u.sz k cs=css:=by
    intro k
    induction k with
    |zero=>intro css cs h _ _;rw[List.eq_nil_of_length_eq_zero h];rfl
    |succ k ih=>
     intro css cs hk hall hc
     match css,hk with
     |y::css,hk=>
      have hy:=hall y(by simp)
      simp only[BR]
      simp only[List.flatten_cons]at hc
      have hA:cs.take u.sz=y:=by
       have:=congrArg(List.take u.sz)hc
       rw[List.take_take,Nat.min_eq_left(by rw[Nat.succ_mul];omega),List.take_left' hy]at this
       exact this
      have hB:(cs.drop u.sz).take(k*u.sz)=css.flatten:=by
       have:=congrArg(List.drop u.sz)hc
       rw[List.drop_left' hy,List.drop_take,Nat.succ_mul,Nat.add_sub_cancel]at this
       exact this
      rw[hA,ih css(cs.drop u.sz)(by simpa using hk)(fun e he=>hall e(by simp[he]))hB]
   exact key n css(cs.drop o)(by rw[e2.length];exact(F.get x).len)e2.lens(by rw[←e1];rfl)
  have hlenx:(F.get x).l.length=n:=(F.get x).len
  obtain⟨w,h9,h10⟩:=hwhole.resl(c:=k)(d:=k+m)(by omega)(by simp only[GS.l];omega)
  have hw:Am.resl H u.sz(.ocel u.sz id o n)k(k+m)=some(.ocel u.sz id(o+k*u.sz)m):=by simp[Am.resl]
  rw[hw]at h9
  cases h9
  refine J.learn ?_
  rw[hv]
  have:TT(GS.mk(F.get x).l)k(k+m)= .mk(((F.get x).l.drop k).take m):=by simp[TT,List.drop_take]
  rw[this]at h10
  exact Ka.2 h10
 ·cases hg
def Aa.frzSl{c:AC}{j N o k m n sz:Nat}(d:Nat){t u:T}{x:t.α}(F:AM t(Ay n u)o)(hsz:sz=u.sz)(hj:AG Γ.ss j=some(.cells [(N, .val t x)]))(hn:Nat.blt j cT=true)
  (hd:BD Γ.ts d=some(.oc j(o+k*sz)sz m))(s:(g:GS u.α)→Aa tb((Γ.turn j(eS t x)).push d(.val(T.sl u)g))c ks Q):Aa tb Γ c ks Q:=
 ⟨(zN(F.get x).l k m n).bind fun g=>(s g).m,fun E f H⟨rv,fp,I⟩r hr=>by
  obtain⟨g,hg,hr⟩:=Option.bind_eq_some_iff.1 hr
  exact(s g).ok E f H⟨rv,fp,I.frzSl F hsz hj hn hd hg⟩r hr⟩
def cpyA{α:Type}{n:Nat}(x:Ar α n)(k m:Nat)(ys:List α):Option(Ar α n):=
 if h:k+m≤n then some⟨x.l.take k++ys.take m++x.l.drop(k+min ys.length m),by
  rw[List.length_append,List.length_append,List.length_take,List.length_take,List.length_drop,x.len];omega⟩else none
theorem Bp.cpy{E:Pr}{rv:Nat→AV}{fp:Fp}{f:Fr}{H:Av}(I:Bp E Γ rv fp f H){s t:T}{x:s.α}{n j o o' k sz m N:Nat}{ps:List(Nat×AL)}{ys:List t.α}{z:Ar t.α n}(F:AM s(Ay n t)o')(hk:sz=t.sz)
  (ha:CA tb Γ a(.oc j(o+k*sz)sz m))(hb:AaR tb Γ b t ys)(hj:AG Γ.ss j=some(.cells ps))(hp:Js ps o=some(N, .val s x,o'))(hz:cpyA(F.get x)k m ys=some z):
  ∃v H',Bq tb(Ck tb)(eval tb f)H(.cpy sz a b)=some(v,some H')∧v= .i .i64((min ys.length m:Nat):Int)∧ ∃rv' fp',Bp E(Γ.setS j(.cells(Vx ps o(.val s(F.put x z)))))rv' fp' f H':=by
 subst hk
 simp only[cpyA]at hz
 split at hz
 ·rename_i hkm
  cases hz
  obtain⟨l,id,e,hv⟩:=ha E rv fp f H I
  obtain⟨cs,h0,h2,h3⟩:=Gc I hj e
  obtain⟨b',c,e0,e1,e2,e3,e4,e5,e6⟩:=FH h3 hp
  obtain⟨els,g1,g2⟩:=hb E rv fp f H I
  have hel:=g2.length
  have hlens:=(g2.take(n:=m)).lens
  have htl:(els.take m).length=min ys.length m:=by rw[List.length_take,hel,Nat.min_comm]
  have hfl:=jW hlens
  rw[htl]at hfl
  let G:=J6 F(U7 n t k(min ys.length m)(by omega))
  have hle:=G.le
  have hszA:(Ay(min ys.length m)t).sz=min ys.length m*t.sz:=rfl
  have hl:=s.len e4
  have hy:(Ay(min ys.length m)t).R(Pf E Γ.ss fp H)H(els.take m).flatten⟨ys.take m,by rw[List.length_take,Nat.min_comm]⟩:=⟨els.take m,rfl,g2.take⟩
  have hput:=G.putR e4 hy
  have hpr:=e6(o'+k*t.sz)(els.take m).flatten(.val s(G.put x⟨ys.take m,by rw[List.length_take,Nat.min_comm]⟩))(by rw[hfl];omega)hput
  rw[show b'+(o'+k*t.sz)=o+k*t.sz by omega]at hpr
  have hmen:=PR.men I.ltP I.rvlt h3
  have hym:=(Ay(min ys.length m)t).men hy I.ltP
  have hlt':=(I.fplt j id l((h0 id).2 rfl)).1
  have hx:G.put x⟨ys.take m,by rw[List.length_take,Nat.min_comm]⟩=F.put x⟨(F.get x).l.take k++ys.take m++(F.get x).l.drop(k+min ys.length m),by
    rw[List.length_append,List.length_append,List.length_take,List.length_take,List.length_drop,(F.get x).len];omega⟩:=rfl
  rw[hx]at hpr
  obtain⟨rv',fp',_,_,R'⟩:=I.set(j:=j)(S:= .cells(Vx ps o(.val s(F.put x⟨(F.get x).l.take k++ys.take m++(F.get x).l.drop(k+min ys.length m),by
    rw[List.length_append,List.length_append,List.length_take,List.length_take,List.length_drop,(F.get x).len];omega⟩))))(v:=rv j)(o:= .cells(Eo H id)(By cs(o+k*t.sz)(els.take m).flatten))(by rw[hj];rfl)l h0(by simp only[En];exact NZ hmen hym)rfl(I.rvlt j l)(.inl rfl)(I.scal j l)fun rv' fp' e1 e2 hP hs=>
   ⟨id,_,by rw[e1,e],e2,by simp[BZ,hlt'],PR.mono hP(by simp)(fun p _=>hs p.2(.inl rfl))hpr⟩
  refine⟨_,H.set id(BH.cells(Eo H id)(By cs(o+k*t.sz)(els.take m).flatten)),?_,rfl,rv',fp',R'⟩
  have hmn:min els.length m=min ys.length m:=by rw[hel]
  have hbnd:o+k*t.sz+m*t.sz≤cs.length:=by
   have hF:=F.le
   have hszF:(Ay n t).sz=n*t.sz:=rfl
   have:(k+m)*t.sz≤n*t.sz:=Nat.mul_le_mul_right _ hkm
   rw[Nat.add_mul]at this
   omega
  simp only[Bq,g1,Option.bind_some,hv,eQ,h2]
  rw[if_pos⟨trivial,hbnd⟩,hmn]
  have hte:els.take(min ys.length m)=els.take m:=by
   rw[←hmn]
   rcases Nat.le_total els.length m with h|h
   ·rw[Nat.min_eq_left h,List.take_of_length_le(Nat.le_refl _),List.take_of_length_le h]
   ·rw[Nat.min_eq_right h]
  rw[hte,By,hfl]
 ·cases hz
theorem M_cpyD{s t:T}{x:s.α}{n j o o' k sz m N d:Nat}{ps:List(Nat×AL)}{ys:List t.α}(F:AM s(Ay n t)o')(hk:sz=t.sz)
  (ha:CA tb Γ a(.oc j(o+k*sz)sz m))(hb:AaR tb Γ b t ys)(hj:AG Γ.ss j=some(.cells ps))(hp:Js ps o=some(N, .val s x,o')):
  Wp tb Γ(some d)(.cpy sz a b)(cpyA(F.get x)k m ys)fun z=>(Γ.setS j(.cells(Vx ps o(.val s(F.put x z))))).push d(.val(T.int .i64)((min ys.length m:Nat):Int)):=fun E rv fp f H I z hz=>by
 obtain⟨v,H',h1,rfl,rv',fp',h2⟩:=I.cpy F hk ha hb hj hp hz
 exact⟨_,some H',h1,rv',fp',h2.push(Ca.2 rfl)⟩
def mM:AL→Bool
 | .own _=>true
 | .rp _ _=>true
 | .cp _ _=>true
 | .ep _ _ _=>true
 | .con _=>true
 | .fnv _ _ _=>true
 | .val t _=> !t.agg
 |_=>false
theorem sW{φ:AL}(h:mM φ=true){E:Pr}{rv:Nat→AV}{fp:Fp}{f:Fr}{H:Av}(R:Bp E Γ rv fp f H)(hs:szF Γ.ss φ=some 1){v:AV}(r:FR rv Γ.ss(Pf E Γ.ss fp H)H φ v):
  cellsOf v=[v]∧B9 v≤H.length∧ ∀rv ss P H,FC rv ss P H φ [v]↔FR rv ss P H φ v:=by
 obtain⟨g1,g2⟩:=RV R hs r
 have ha:AaK φ=false:=by cases φ<;>first|rfl|(simp only[mM,Bool.false_eq_true]at h;done)|(simp only[mM,Bool.not_eq_true']at h;exact h)
 rw[ha]at g2
 refine⟨?_,FR.men R.ltP R.rvlt(by rintro rfl;cases h)r,fun rv ss P H=> ?_⟩
 ·match hc:cellsOf v,g1 with
  |[w],_=>
   rw[hc]at g2
   simp only[Hu,Option.some.injEq]at g2
   rw[g2]
 ·cases φ<;>first
   |(simp only[mM,Bool.false_eq_true]at h;done)
   |exact⟨fun⟨w,e,r⟩=>by cases e;exact r,fun r=>⟨v,rfl,r⟩⟩
   |exact⟨fun r=> .inr⟨by simpa [mM]using h,r⟩,fun r=>r.elim(fun⟨e,_⟩=>by simp[mM,e]at h)(fun e=>e.2)⟩
theorem Cw{d t0:Nat}{z:List AV}(j:Nat)(ps:List(Nat×AL))(hz: ∀rv ss P H,PR rv ss P H ps z)(hm:Bh z=0)(hj:AG Γ.ss j=none):Wp tb Γ(some d)(.alloc t0 z)(some())fun _=>⟨(d, .cp j 0)::Γ.ts,(j, .cells ps)::Γ.ss⟩:=by
 intro E rv fp f H R _ hz0
 obtain⟨rv',fp',h1,h2,h3⟩:=R.more(j:=j)(S:= .cells ps)(v:= .ptr H.length 0)(o:= .cells(some t0)z)(H7 hj)(by simp only[En];omega)rfl(by simp[B9])rfl fun rv' fp' e1 e2 hP hs=>
  ⟨_,z,e1,e2,by simp[BZ],hz _ _ _ _⟩
 exact⟨_,_,rfl,rv',fp',h3.push(φ:= .cp j 0)⟨h2,_,h1,rfl⟩⟩
theorem h_cvcI{I:IT}{x:I.t.α}(ha:CA tb Γ a(.val I.t x)):F1 tb Γ(.cvc a)(some(Utf8.encode(I.toI x)).data.toList)fun z=> .val Ax z:=by
 rintro E rv fp f H R z⟨⟩
 exact⟨_,none,by simp only[Bq,I.V.1(ha E rv fp f H R)],rfl,EC.2 rfl⟩
end
section
variable {tb:CZ}{Γ:Cx}{a b:AO}
def ZJ(ss:Ss):List Nat→Bool
 |[]=>true
 |j::r=>(match AG ss j with
  |some(.keep φ)=>mM φ&&(match szF ss φ with|some 1=>true|_=>false)
  |_=>false)&&ZJ ss r
theorem R8{E:Pr}{rv:Nat→AV}{fp:Fp}{f:Fr}{H:Av}(R:Bp E Γ rv fp f H): ∀{js:List Nat},ZJ Γ.ss js=true→(js.flatMap fun j=>cellsOf(rv j))=js.map rv∧Ny Γ.ss js∧ ∀j∈js,B9(rv j)≤H.length
 |[],_=>⟨rfl,fun _ hj=>absurd hj(by simp),fun _ hj=>absurd hj(by simp)⟩
 |j::r,h=>by
  simp only[ZJ,Bool.and_eq_true]at h
  obtain⟨h1,h2⟩:=h
  obtain⟨g1,g2,g3⟩:=R8 R h2
  split at h1
  ·rename_i φ e
   simp only[Bool.and_eq_true]at h1
   have hs:szF Γ.ss φ=some 1:=by
    have:=h1.2
    split at this
    ·assumption
    ·cases this
   obtain⟨k1,k2,_⟩:=sW h1.1 R hs(R.slots j _ e).1
   refine⟨by simp only[List.flatMap_cons,List.map_cons,k1,g1];rfl,fun k hk=> ?_,fun k hk=> ?_⟩
   ·rcases List.mem_cons.1 hk with rfl|hk
    ·rw[e];rfl
    ·exact g2 k hk
   ·rcases List.mem_cons.1 hk with rfl|hk
    ·exact k2
    ·exact g3 k hk
  ·cases h1
def kvs(js:List Nat):List(Nat×AL):=js.map fun k=>(1, .kv k)
theorem yS{rv:Nat→AV}{ss:Ss}{P:Nat→Prop}{H:Av}: ∀{js:List Nat},Ny ss js→PR rv ss P H(kvs js)(js.map rv)
 |[],_=>rfl
 |j::r,h=>⟨[rv j],r.map rv,rfl,rfl,⟨rv j,rfl,fun k hk=>by rw[List.mem_singleton.1 hk];exact h j(by simp),rfl⟩,yS fun k hk=>h k(by simp[hk])⟩
theorem AaQ{rv:Nat→AV}{ss:Ss}{P:Nat→Prop}{H:Av}: ∀{js:List Nat}{cs:List AV},PR rv ss P H(kvs js)cs→cs=js.map rv
 |[],cs,h=>h
 |j::r,cs,⟨c,d,e,_,⟨v,hc,_,hv⟩,g⟩=>by rw[e,hc,AaQ g,hv];rfl
theorem D2{js:List Nat}{j n:Nat}{ps:List(Nat×AL)}(ha:CA tb Γ a(.cp j 0))(hb:CA tb Γ b(.aggk js))(ho:ZJ Γ.ss js=true)(hj:AG Γ.ss j=some(.cells ps))(hn:n=js.length)(hs:n=UB ps):
  Wp tb Γ none(.st n a b)(some())fun _=>Γ.setS j(.cells(kvs js)):=by
 rintro E rv fp f H R z⟨⟩
 obtain⟨l,id,e,hv⟩:=ha E rv fp f H R
 obtain⟨cs,h0,h2,h3⟩:=Gc R hj e
 obtain⟨g1,g2,g3⟩:=R8 R ho
 have hbv:=(hb E rv fp f H R).2
 rw[g1]at hbv
 have hlen:=PR.length h3
 have hlt:=(R.fplt j id l((h0 id).2 rfl)).1
 have hm:Bh(js.map rv)≤H.length:=by
  have key: ∀l:List Nat,(∀j∈l,B9(rv j)≤H.length)→Bh(l.map rv)≤H.length:=by
   intro l
   induction l with
   |nil=>intro _;simp[Bh]
   |cons x l ih=>intro h;simp only[List.map_cons,Bh];have:=h x(by simp);have:=ih fun j hj=>h j(by simp[hj]);omega
  exact key js g3
 obtain⟨rv',fp',_,_,R'⟩:=R.set(j:=j)(S:= .cells(kvs js))(v:=rv j)(o:= .cells(Eo H id)(js.map rv))(by rw[hj];rfl)l h0(by simp only[En];exact hm)rfl(R.rvlt j l)(.inl rfl)(R.scal j l)fun rv' fp' e1 e2 hP hs=>
  ⟨id,_,by rw[e1,e],e2,by simp[BZ,hlt],PR.mono hP(by simp)(fun p _=>hs p.2(.inl rfl))(yS(rv:=rv)g2)⟩
 have hsp:By cs 0(js.map rv)=js.map rv:=by
  simp only[By,List.take_zero,List.nil_append,Nat.zero_add]
  rw[List.drop_eq_nil_of_le(by rw[List.length_map];omega),List.append_nil]
 refine⟨.junk,some(H.set id(BH.cells(Eo H id)(js.map rv))),?_,rv',fp',R'⟩
 simp only[Bq,hv,store,h2,Option.bind_some,hbv,cellsOf]
 rw[if_pos⟨by rw[List.length_map,hn],by omega⟩,hsp]
 rfl
theorem h_ldKs{js:List Nat}{j n:Nat}(ha:CA tb Γ a(.cp j 0))(ho:ZJ Γ.ss js=true)(hj:AG Γ.ss j=some(.cells(kvs js)))(hn:n=js.length):F1 tb Γ(.ld true n a)(some())fun _=> .aggk js:=by
 rintro E rv fp f H R z⟨⟩
 obtain⟨l,id,e,hv⟩:=ha E rv fp f H R
 obtain⟨cs,h0,h2,h3⟩:=Gc R hj e
 obtain⟨g1,g2,g3⟩:=R8 R ho
 have hcs:=AaQ h3
 subst hcs
 have hsub:sub(js.map rv)0 n=js.map rv:=by
  simp only[sub,List.drop_zero];exact List.take_of_length_le(by rw[List.length_map];omega)
 refine⟨.agg(js.map rv),none,?_,rfl,g2,by rw[g1]⟩
 simp only[Bq,hv,Am.load,place,h2,Option.map_some,Option.bind_some]
 rw[if_pos(by rw[List.length_map];omega),hsub]
 rfl
theorem Eb{js:List Nat}{j n m:Nat}(h:BD Γ.ts n=some(.cp j 0))(ho:ZJ Γ.ss js=true)(hj:AG Γ.ss j=some(.cells(kvs js)))(hm:m=js.length):ResG Γ(.cell true m n)(.aggk js):=by
 intro E rv fp f H R r vs hr
 obtain⟨v,u,h1,_,h3⟩:=h_ldKs(tb:=⟨fun _=>none,fun _=>none,fun _=>none⟩)(Ae h)ho hj hm E rv fp f H R()rfl
 simp only[Bq,eval,val]at h1
 obtain⟨w,hw,e⟩:=Option.map_eq_some_iff.1 h1
 cases e
 exact⟨v,by simp only[results,hw,Option.bind_some,hr,Option.map_some],h3⟩
end
def HN{t:T}{l:List CK}(p:CW t l)(x y:t.α):Bool:= @decide(x=y)(p.d x y)
theorem KF{t:T}{l:List CK}{p:CW t l}{x y:t.α}(h:x=y):HN p x y=true:= @decide_eq_true _(p.d x y)h
theorem Wk{t:T}{l:List CK}{p:CW t l}{x y:t.α}(h: ¬x=y):HN p x y=false:= @decide_eq_false _(p.d x y)h
open Classical in
noncomputable def ZX{β:Type}(g:Nat→Option β):Option β:=if h: ∃n,(g n).isSome=true then g(Classical.choose h)else none
theorem jS{β:Type}{g:Nat→Option β}{b:β}(h: ∀n,g n=none∨g n=some b){m:Nat}(hm:g m=some b):ZX g=some b:=by
 have hx: ∃n,(g n).isSome=true:=⟨m,by rw[hm];rfl⟩
 unfold ZX
 rw[dif_pos hx]
 rcases h(Classical.choose hx)with e|e
 ·have:=Classical.choose_spec hx
  rw[e]at this;cases this
 ·exact e
theorem Yp{tb:CZ}{g:Nat}{As Rs:List T}:AH tb g As Rs fun _=>none:=fun _ _ _ _ _ _ _ _ h=>by cases h
theorem aU{tb:CZ}{g:Nat}{As Rs:List T}{G:Nat→BU As→Option(BU Rs)}(h: ∀n,AH tb g As Rs(G n)):AH tb g As Rs fun a=>ZX fun n=>G n a:=by
 intro P hp args xs h1 h2 h3 r hr
 simp only[ZX]at hr
 by_cases e: ∃n,(G n xs).isSome=true
 ·rw[dif_pos e]at hr
  exact h _ P hp args xs h1 h2 h3 r hr
 ·rw[dif_neg e]at hr
  cases hr
end Go.Proofs.YtobejhpigbllpaaGreatDoor.Am
namespace Go.Proofs.YtobejhpigbllpaaGreatDoor.Am
section
variable {tb:CZ}{cl:Nat→List AV→Av→KH}{N:Nat}
theorem sU{d:Option Nat}{g g':Option(Nat×Bool)}{o:HT}{l l':List AU}{p:Fr×Av}: ∀{k:Nat}{ms:List VY}{es:List vA}{w:List(Option(Nat×Nat))}{f:Fr}{h:Av},wanted f g'=wanted f g→
  (∀k ms es w v h,Gw tb cl N k ms es l w(put f d v)h p→Gw tb cl N k ms es l' w(put f d v)h p)→Gw tb cl N k ms es(⟨d,g,o⟩::l)w f h p→Gw tb cl N k ms es(⟨d,g',o⟩::l')w f h p
 |k,ms,es,[],f,h,hw,ih,e=>by simp[Gw]at e
 |k,ms,es,none::w,f,h,hw,ih,e=>by
  simp only[Gw]at e ⊢
  rw[hw]
  rcases e with⟨h0,q,es',h1,h2,h3,h4,e⟩|⟨h0,h1,e⟩
  ·exact .inl⟨h0,q,es',h1,h2,h3,h4,ih _ _ _ _ _ _ e⟩
  ·exact .inr⟨h0,h1,ih _ _ _ _ _ _ e⟩
 |k,ms,es,some(lo,hi)::w,f,h,hw,ih,e=>by
  simp only[Gw]at e ⊢
  rw[hw]
  rcases e with⟨h0,q,h1,h2,h3,⟨h4,e⟩|⟨h4,h5,e⟩⟩|⟨h0,h1,e⟩
  ·exact .inl⟨h0,q,h1,h2,h3, .inl⟨h4,ih _ _ _ _ _ _ e⟩⟩
  ·exact .inl⟨h0,q,h1,h2,h3, .inr⟨h4,h5,ih _ _ _ _ _ _ e⟩⟩
  ·exact .inr⟨h0,h1,ih _ _ _ _ _ _ e⟩
theorem Wf{p:Fr×Av}: ∀{l:List AU}{k:Nat}{ms:List VY}{es es2:List vA}{w:List(Option(Nat×Nat))}{f:Fr}{h:Av},(∀e∈es,e∈es2)→Gw tb cl N k ms es l w f h p→Gw tb cl N k ms es2 l w f h p
 |[],k,ms,es,es2,w,f,h,hs,e=>by cases w<;>exact e
 |⟨d,g,o⟩::l,k,ms,es,es2,[],f,h,hs,e=>by simp[Gw]at e
 |⟨d,g,o⟩::l,k,ms,es,es2,none::w,f,h,hs,e=>by
  simp only[Gw]at e ⊢
  rcases e with⟨h0,q,es',h1,h2,h3,h4,e⟩|⟨h0,h1,e⟩
  ·exact .inl⟨h0,q,es',h1,h2,h3,fun x hx=>⟨(h4 x hx).1.imp(hs x)id,(h4 x hx).2⟩,e⟩
  ·exact .inr⟨h0,h1,e⟩
 |⟨d,g,o⟩::l,k,ms,es,es2,some(lo,hi)::w,f,h,hs,e=>by
  simp only[Gw]at e ⊢
  rcases e with⟨h0,q,h1,h2,h3,⟨h4,e⟩|⟨h4,⟨x,hx,h5⟩,e⟩⟩|⟨h0,h1,e⟩
  ·exact .inl⟨h0,q,h1,h2,h3, .inl⟨h4,Wf hs e⟩⟩
  ·exact .inl⟨h0,q,h1,h2,h3, .inr⟨h4,⟨x,hs x hx,h5⟩,Wf hs e⟩⟩
  ·exact .inr⟨h0,h1,Wf hs e⟩
theorem qQ{g:Nat}{b:Bool}{R:List AU}{p:Fr×Av}: ∀{l:List AU}{k:Nat}{ms:List VY}{es:List vA}{w:List(Option(Nat×Nat))}{f:Fr}{h:Av},get f g= .b b→g∉E4 l→
  Gw tb cl N k ms es(l++R)w f h p→Gw tb cl N k ms es(l.map(gd g b)++R)w f h p
 |[],_,_,_,_,_,_,_,_,e=>e
 |o::l,k,ms,es,w,f,h,hg,hn,e=>by
  have hd:o.d≠some g:=fun e=>hn(by simp[E4,e])
  have hn':g∉E4 l:=fun e=>hn(by
   simp only[E4,List.filterMap_cons]at e ⊢
   cases o.d<;>simp[e])
  have hwt:wanted f(gd g b o).g=wanted f o.g:=by
   cases ho:o.g with
   |none=>simp[gd,ho,wanted,hg]
   |some p=>simp[gd,ho]
  have hoo:gd g b o=⟨o.d,(gd g b o).g,o.o⟩:=by
   obtain⟨d,og,oo⟩:=o
   cases og<;>rfl
  rw[List.map_cons,List.cons_append,hoo]
  rw[List.cons_append]at e
  exact sU hwt(fun k ms es w v h e=>qQ(by rw[Gt(w:=b)hd];exact hg)hn' e)e
def Pv:Nat→List(Option(Nat×Nat))→Option(Nat×List(Option(Nat×Nat)))
 |0,w=>some(0,w)
 |n+1,none::w=>(Pv n w).map fun p=>(p.1+1,p.2)
 |n+1,some _::w=>Pv n w
 |_+1,[]=>none
theorem TE{g:Nat}{b:Bool}{R:List AU}: ∀{l:List AU}{seen:List Nat}{k m:Nat}{w w2:List(Option(Nat×Nat))}{f:Fr}{H:Av},get f g= .b(!b)→g∉E4 l→Z5 seen l=true→(∀t∈seen,get f t= .tup [])→
  Pv l.length w=some(m,w2)→ ∃f',(∀u,u∉E4 l→get f' u=get f u)∧ ∀p,Gw tb cl N(k+m) [] []R w2 f' H p→Gw tb cl N k [] [](l.map(gd g b)++R)w f H p
 |[],seen,k,m,w,w2,f,H,_,_,_,_,e=>by
  simp only[List.length_nil,Pv,Option.some.injEq,Prod.mk.injEq]at e
  obtain⟨rfl,rfl⟩:=e
  exact⟨f,fun _ _=>rfl,fun p h=>h⟩
 |o::l,seen,k,m,w,w2,f,H,h,hn,hs,hseen,e=>by
  have hd:o.d≠some g:=fun e=>hn(by simp[E4,e])
  have hn':g∉E4 l:=fun e=>hn(by
   simp only[E4,List.filterMap_cons]at e ⊢
   cases o.d<;>simp[e])
  simp only[Z5,Bool.and_eq_true]at hs
  have hwt:wanted f(gd g b o).g=some false:=by
   cases ho:o.g with
   |none=>simp[gd,ho,wanted,h]
   |some p=>
    obtain⟨t,b⟩:=p
    simp only[gd,ho,wanted]
    have:=hs.1
    rw[ho]at this
    obtain⟨x,hx,hb⟩:=List.any_eq_true.1 this
    have hb:=Nat.eq_of_beq_eq_true hb
    subst hb
    rw[hseen _ hx]
  have hoo:gd g b o=⟨o.d,(gd g b o).g,o.o⟩:=by
   obtain⟨d,og,oo⟩:=o
   cases og<;>rfl
  have h1:get(put f o.d(.tup []))g= .b(!b):=by rw[Gt(w:=b)hd];exact h
  have h2: ∀t∈(match o.d with|some d=>d::seen|none=>seen),get(put f o.d(.tup []))t= .tup []:=fun t ht=>by
   cases hdd:o.d with
   |none=>rw[hdd]at ht;exact hseen t ht
   |some d=>
    rw[hdd]at ht
    simp only[put,get]
    by_cases e:d=t
    ·rw[if_pos e]
    ·rw[if_neg e]
     rcases List.mem_cons.1 ht with e'|ht
     ·exact absurd e'.symm e
     ·exact hseen t ht
  have hu: ∀f':Fr,(∀u,u∉E4 l→get f' u=get(put f o.d(.tup []))u)→ ∀u,u∉E4(o::l)→get f' u=get f u:=fun f' h3 u hu=>by
   have hu':u∉E4 l:=fun e=>hu(by
    simp only[E4,List.filterMap_cons]at e ⊢
    cases o.d<;>simp[e])
   rw[h3 u hu']
   exact Gt(w:=b)fun e=>hu(by simp[E4,e])
  cases w with
  |nil=>simp[Pv]at e
  |cons x w=>
   cases x with
   |none=>
    simp only[List.length_cons,Pv]at e
    obtain⟨q,hq,e⟩:=Option.map_eq_some_iff.1 e
    obtain⟨f',h3,h4⟩:=TE(k:=k+1)(m:=q.1)(w2:=q.2)(H:=H)(R:=R)h1 hn' hs.2 h2 hq
    simp only[Prod.mk.injEq]at e
    obtain⟨rfl,rfl⟩:=e
    refine⟨f',hu f' h3,fun p hp=> ?_⟩
    rw[List.map_cons,List.cons_append,hoo]
    exact .inr⟨hwt,rfl,h4 p(by rw[Nat.add_assoc,Nat.add_comm 1];exact hp)⟩
   |some y=>
    simp only[List.length_cons,Pv]at e
    obtain⟨f',h3,h4⟩:=TE(k:=k)(H:=H)(R:=R)h1 hn' hs.2 h2 e
    refine⟨f',hu f' h3,fun p hp=> ?_⟩
    rw[List.map_cons,List.cons_append,hoo]
    exact .inr⟨hwt,rfl,h4 p hp⟩
end
section
variable {tb:CZ}{Γ:Cx}{a b:AO}{ks:List Kf}{ρ:Type}{Q:Mb ρ}
theorem Bp.sure{E:Pr}{rv:Nat→AV}{fp:Fp}{f:Fr}{H:Av}(I:Bp E Γ rv fp f H){g:Nat}{b:Bool}(hg:get f g= .b b):Bp E(Γ.push g(.val T.b b))rv fp f H:=
 ⟨I.le,I.base,I.wf,I.fplt,I.rvlt,I.scal,I.inj,I.slots,fun u φ e=>by
  simp only[Cx.push,BD]at e
  split at e
  ·rename_i hu;cases e;subst hu;exact Gg.2 hg
  ·exact I.temps u φ e,I.gh⟩
def ND{L l rest:List AU}{g t d:Nat}{b:Bool}{w w2:List(Option(Nat×Nat))}{y:Nat×Nat}{N k m:Nat}(Γk:Cx)(n:Nat)(og:BD Γ.ts g=some(.val T.b b))(h:KI g true n L=some(l,⟨some d,none, .pick(.t g)(.t t)(.k(.b false))⟩::rest))(hc:VQ g l Γ.ts=true)(hs: ∀z,uZ(Γk.push d(.val T.b z))(Γ.push d(.val T.b z)))
  (hw:Pv l.length w=some(m,some y::w2))(hq:Zl N(k+m) [] []y(some d)(.pick(.t g)(.t t)(.k(.b false)))=true)
  (kk:(z:Bool)→A9 tb(Γk.push d(.val T.b z))N(k+m) [] []rest w2 ks Q)
  (main:((z:Bool)→A9 tb(Γk.push d(.val T.b z))N(k+m) [] []rest w2 ks Q)→A9 tb(Γ.push g(.val T.b true))N k [] [](l++⟨some d,none, .pick(.t g)(.t t)(.k(.b false))⟩::rest)w ks Q):A9 tb Γ N k [] []L w ks Q:=
 ⟨if b=true then(main kk).m else(kk false).m,fun E f H⟨rv,fp,I⟩ms hms es hes r hr=>by
  cases hms;cases hes
  have hL:=Hf h
  simp only[VQ,Bool.and_eq_true,Bool.not_eq_true']at hc
  obtain⟨hc1,hc2,hc3⟩:=hc
  have hg:=Gg.1(I.temps g _ og)
  have hng:=JQ hc2
  cases b with
  |true=>
   obtain⟨p,e,f',H',h4,h5⟩:=(main kk).ok E f H⟨rv,fp,I.sure hg⟩ [] .nil [] .nil r(by simpa using hr)
   exact⟨p,e,f',H',by rw[hL];exact qQ hg hng h4,h5⟩
  |false=>
   obtain⟨f',h1,h2⟩:=TE(tb:=tb)(cl:=Ck tb)(N:=N)(b:=true)(H:=H)(k:=k)(R:=⟨some d,none, .pick(.t g)(.t t)(.k(.b false))⟩::rest)hg hng hc1(by simp)hw
   have hp:Bq tb(Ck tb)(eval tb f')H(.pick(.t g)(.t t)(.k(.b false)))=some(.b false,none):=by
    simp only[Bq,eval,h1 g hng,hg];rfl
   have I':Bp E Γ rv fp f' H:=I.fr fun u φ e=>h1 u(IK hc3 e)
   obtain⟨p,e,f2,H2,h4,h5⟩:=(kk false).ok E _ H⟨rv,fp,(WZ I').sub(hs _)⟩ [] .nil [] .nil r(by simpa using hr)
   exact⟨p,e,f2,H2,by rw[hL];exact h2 p(vJ hq .nil hp rfl h4),h5⟩⟩
def LV{Γ0:Cx}{rest:List AU}{g d:Nat}{x b:Bool}{y z:AO}{w:List(Option(Nat×Nat))}{q:Nat×Nat}{N k:Nat}(og:BD Γ.ts g=some(.val T.b b))(ht:CA tb Γ(bif b then y else z)(.val T.b x))(hs:uZ(Γ0.push d(.val T.b x))(Γ.push d(.val T.b x)))
  (hq:Zl N k [] []q(some d)(.pick(.t g)y z)=true)(kk:(z:Bool)→A9 tb(Γ0.push d(.val T.b z))N k [] []rest w ks Q){C:List Cb}:A9 tb Γ N k []C(⟨some d,none, .pick(.t g)y z⟩::rest)(some q::w)ks Q:=
 ⟨(kk x).m,fun E f H⟨rv,fp,I⟩ms hms es hes r hr=>by
  cases hms
  have hg:=Gg.1(I.temps g _ og)
  have hp:Bq tb(Ck tb)(eval tb f)H(.pick(.t g)y z)=some(.b x,none):=by
   have hv:=Gg.1(ht E rv fp f H I)
   simp only[Bq,eval,hg]
   cases b<;>exact congrArg(fun v=>some(v,none))hv
  obtain⟨p,e,f2,H2,h4,h5⟩:=(kk x).ok E _ H⟨rv,fp,(WZ I).sub hs⟩ [] .nil [] .nil r hr
  exact⟨p,e,f2,H2,Wf(es:=[])(fun _ hx=>absurd hx(by simp))(vJ hq .nil hp rfl h4),h5⟩⟩
def T.err:T:=Tx Bool(fun x=>if x then .ifc 0 .junk else .nili)false(fun x=>by cases x<;>rfl)(fun x=>by cases x<;>rfl)
theorem T.err_V{P:Nat→Prop}{H:Av}{v:AV}{x:Bool}:T.err.V P H v x↔v=if x then .ifc 0 .junk else .nili:=PX
theorem zF{t:Nat}:F1 tb Γ(.mkif t a)(some())fun _=> .val T.err true:=by
 rintro E rv fp f H R _⟨⟩
 exact⟨_,none,rfl,rfl,T.err_V.2 rfl⟩
theorem o_g{n:Nat}{t:T}{cs:List AV}{x:t.α}(h:tb.gl n=some cs)(hm:Bh cs=0)(hr: ∀P H,t.R P H cs x):CA tb Γ(.g n)(.rp t x):=fun E rv fp f H R=>by
 have hl:=t.len(hr(Pf E Γ.ss fp H)H)
 have he:eval tb f(.g n)= .ip cs 0:=by simp only[eval,h]
 show Zu t _ _ _ _
 rw[he]
 refine⟨trivial,cs,0,rfl,by omega,?_,fun m _=>by simp only[B9,hm];omega⟩
 have:sub cs 0 t.sz=cs:=by simp[sub,←hl]
 rw[this];exact hr _ _
theorem vG{α:Type}(c:α→AV)(hm: ∀x,B9(c x)=0): ∀l:List α,Bh(l.map c)=0
 |[]=>rfl
 |x::l=>by simp only[List.map_cons,Bh,hm x,vG c hm l];rfl
theorem tab_R{α:Type}{c:α→AV}{z:α}{hs hm}{n:Nat}{P:Nat→Prop}{H:Av}(x:Ar α n):(Ay n(Tx α c z hs hm)).R P H(x.l.map c)x:=by
 have key: ∀l:List α,l.map c=(l.map fun y=>[c y]).flatten∧CJ(Tx α c z hs hm)P H(l.map fun y=>[c y])l:=fun l=>by
  induction l with
  |nil=>exact⟨rfl,trivial⟩
  |cons y l ih=>exact⟨by simp[ih.1],rfl,ih.2⟩
 exact⟨_,(key x.l).1,(key x.l).2⟩
end
def fH(K V:T)(P:Nat→Prop)(H:Av):List(AV×AV)→List(K.α×V.α)→Prop
 |[],[]=>True
 |(a,b)::r,(x,y)::q=>K.V P H a x∧V.V P H b y∧fH K V P H r q
 |_,_=>False
section
variable {K V:T}{P Q:Nat→Prop}{H G:Av}
theorem fH.mono(m: ∀i,P i→Q i∧G[i]? =H[i]?): ∀{es:List(AV×AV)}{l:List(K.α×V.α)},fH K V P H es l→fH K V Q G es l
 |[],[],_=>trivial
 |(_,_)::_,(_,_)::_,⟨h1,h2,h3⟩=>⟨h1.mono m,h2.mono m,h3.mono m⟩
theorem fH.men{m:Nat}(hp: ∀i,P i→i<m): ∀{es:List(AV×AV)}{l:List(K.α×V.α)},fH K V P H es l→Bh(es.map(·.1))≤m∧Bh(es.map(·.2))≤m
 |[],[],_=>by simp[Bh]
 |(_,_)::_,(_,_)::_,⟨h1,h2,h3⟩=>by
  have:=h1.men hp;have:=h2.men hp;have:=h3.men hp
  simp only[List.map_cons,Bh];omega
theorem fH.app: ∀{es fs:List(AV×AV)}{l m:List(K.α×V.α)},fH K V P H es l→fH K V P H fs m→fH K V P H(es++fs)(l++m)
 |[],_,[],_,_,h=>h
 |(_,_)::_,_,(_,_)::_,_,⟨h1,h2,h3⟩,h=>⟨h1,h2,h3.app h⟩
theorem fH.length: ∀{es:List(AV×AV)}{l:List(K.α×V.α)},fH K V P H es l→es.length=l.length
 |[],[],_=>rfl
 |(_,_)::_,(_,_)::_,⟨_,_,h3⟩=>by simp[h3.length]
end
def SA{κ ν:Type}(e:κ→κ→Bool):List(κ×ν)→κ→Option ν
 |[],_=>none
 |(x,v)::r,k=>bif e k x then some v else SA e r k
def S9{κ ν:Type}(e:κ→κ→Bool):List(κ×ν)→κ→ν→List(κ×ν)
 |[],k,v=>[(k,v)]
 |(x,y)::r,k,v=>bif e k x then(k,v)::r else(x,y)::S9 e r k v
def sY{κ ν:Type}(e:κ→κ→Bool):List(κ×ν)→κ→List(κ×ν)
 |[],_=>[]
 |(x,y)::r,k=>bif e k x then r else(x,y)::sY e r k
def Qa(K V:T):Dom where
 α:=List(K.α×V.α)
 R:=fun F P H v x=> ∃id es,v= .mp id∧(∀i,F i↔i=id)∧H[id]? =some(.map es)∧fH K V P H es x
 lt:=fun⟨id,es,_,hF,h,_⟩i hi=>by rw[(hF i).1 hi];exact(List.getElem?_eq_some_iff.1 h).1
 men:=fun⟨id,es,e,hF,_,_⟩_ hm=>by rw[e];simp only[B9];exact hm id((hF id).2 rfl)
 mono:=fun m g⟨id,es,e,hF,h,r⟩=>⟨id,es,e,hF,by rw[g id((hF id).2 rfl)];exact h,r.mono m⟩
structure fF(K:T)(ek:EK)where
 l:List CK
 p:CW K l
 h:(K.agg=true∧ek= .agg l)∨(K.agg=false∧ ∃c,l=[c]∧ek= .one c)
def fF.e{K:T}{ek:EK}(q:fF K ek):K.α→K.α→Bool:=HN q.p
theorem qR: ∀{l:List CK}{c d:List AV}{b:Bool},LA l c d=some b→c.length=l.length
 |[],[],[],_,_=>rfl
 |[],[],_::_,_,h=>by simp[LA]at h
 |[],_::_,_,_,h=>by simp[LA]at h
 |_::_,[],_,_,h=>by simp[LA]at h
 |_::_,_::_,[],_,h=>by simp[LA]at h
 |k::l,x::c,y::d,b,h=>by
  simp only[LA]at h
  obtain⟨a,_,h⟩:=Option.bind_eq_some_iff.1 h
  obtain⟨b',h,_⟩:=Option.map_eq_some_iff.1 h
  simp[qR h]
section
variable {K V:T}{P Q:Nat→Prop}{H G:Av}{ek:EK}
theorem fF.eq(q:fF K ek){v w:AV}{x y:K.α}(h:K.V P H v x)(g:K.V Q G w y):XL ek v w=some(q.e x y):=by
 rcases q.h with⟨ha,e⟩|⟨ha,c,hl,e⟩
 ·rcases h with⟨_,cs,rfl,h⟩|⟨hb,_⟩
  ·rcases g with⟨_,ds,rfl,g⟩|⟨hb,_⟩
   ·exact(congrArg(fun e=>XL e _ _)e).trans(q.p.h h g)
   ·rw[ha]at hb;cases hb
  ·rw[ha]at hb;cases hb
 ·rcases h with⟨hb,_⟩|⟨_,h⟩
  ·rw[ha]at hb;cases hb
  ·rcases g with⟨hb,_⟩|⟨_,g⟩
   ·rw[ha]at hb;cases hb
   ·have:=q.p.h h g
    refine(congrArg(fun e=>XL e _ _)e).trans ?_
    simp only[hl,LA]at this
    simp only[XL]
    obtain⟨b,h1,h2⟩:=Option.bind_eq_some_iff.1 this
    simp only[Option.map_some,Bool.and_true,Option.some.injEq]at h2
    rw[h1,h2];rfl
theorem fF.ok(q:fF K ek){v:AV}{x:K.α}(h:K.V P H v x):Mk ek v=true:=by
 rcases q.h with⟨ha,e⟩|⟨ha,c,hl,e⟩
 ·rcases h with⟨_,cs,rfl,h⟩|⟨hb,_⟩
  ·refine(congrArg(fun e=>Mk e _)e).trans ?_
   simp only[Mk,qR(q.p.h h h),Nat.beq_refl]
  ·rw[ha]at hb;cases hb
 ·exact(congrArg(fun e=>Mk e _)e).trans rfl
theorem Um(q:fF K ek){k:AV}{x:K.α}(hk:K.V P H k x): ∀{es:List(AV×AV)}{m:List(K.α×V.α)}(i:Nat),fH K V P H es m→
  (∃j b y,Am.find ek k es i=some(some(i+j,b))∧SA q.e m x=some y∧V.V P H b y∧(∀b' y',V.V P H b' y'→fH K V P H(es.set j(k,b'))(S9 q.e m x y'))∧fH K V P H(es.eraseIdx j)(sY q.e m x))∨
  (Am.find ek k es i=some none∧SA q.e m x=none∧(∀y',S9 q.e m x y'=m++[(x,y')])∧sY q.e m x=m)
 |[],[],i,_=> .inr⟨rfl,rfl,fun _=>rfl,rfl⟩
 |(a,b)::r,(x',y)::m,i,⟨h1,h2,h3⟩=>by
  have he:=q.eq hk h1
  cases hq:q.e x x' with
  |true=>
   refine .inl⟨0,b,y,?_,?_,h2,fun b' y' h=> ?_,?_⟩
   ·simp only[Am.find,he,hq,Option.bind_some,if_true,Nat.add_zero]
   ·simp only[SA,hq,cond_true]
   ·simp only[List.set_cons_zero,S9,hq,cond_true];exact⟨hk,h,h3⟩
   ·simp only[List.eraseIdx_cons_zero,sY,hq,cond_true];exact h3
  |false=>
   rcases Um q hk(i+1)h3 with⟨j,b',y',g1,g2,g3,g4,g5⟩|⟨g1,g2,g3,g4⟩
   ·refine .inl⟨j+1,b',y',?_,?_,g3,fun b2 y2 h=> ?_,?_⟩
    ·simp only[Am.find,he,hq,Option.bind_some,Bool.false_eq_true,if_false,g1];congr 3;omega
    ·simp only[SA,hq,cond_false,g2]
    ·simp only[List.set_cons_succ,S9,hq,cond_false];exact⟨h1,h2,g4 b2 y2 h⟩
    ·simp only[List.eraseIdx_cons_succ,sY,hq,cond_false];exact⟨h1,h2,g5⟩
   ·refine .inr⟨?_,?_,fun y2=> ?_,?_⟩
    ·simp only[Am.find,he,hq,Option.bind_some,Bool.false_eq_true,if_false,g1]
    ·simp only[SA,hq,cond_false,g2]
    ·simp only[S9,hq,cond_false,g3,List.cons_append]
    ·simp only[sY,hq,cond_false,g4]
end
section
variable {tb:CZ}{Γ:Cx}{a b c:AO}{K V:T}{ek:EK}
def AaN(V:T)(z:AV):Prop:=(V.agg=true∧z= .agg V.zc)∨(V.agg=false∧V.zc=[z])
theorem AaN.v{V:T}{z:AV}(h:AaN V z){P:Nat→Prop}{H:Av}:V.V P H z V.z:=by
 rcases h with⟨h,rfl⟩|⟨h,e⟩
 ·exact .inl⟨h,_,rfl,V.hz P H⟩
 ·exact .inr⟨h,by rw[←e];exact V.hz P H⟩
theorem M_mkm{d:Nat}(j:Nat)(hj:AG Γ.ss j=none):Wp tb Γ(some d) .mkm(some())fun _=>⟨(d, .own j)::Γ.ts,(j, .dom(Qa K V) [])::Γ.ss⟩:=by
 rintro E rv fp f H R _⟨⟩
 obtain⟨rv',fp',h1,h2,h3⟩:=R.more(j:=j)(S:= .dom(Qa K V) [])(v:= .mp H.length)(o:= .map [])(H7 hj)(by simp[En,Bh])rfl(by simp[B9])rfl fun rv' fp' e1 e2 hP hs=>
  ⟨_,[],e1,e2,by simp,trivial⟩
 exact⟨.mp H.length,some(H++[BH.map []]),rfl,rv',fp',h3.push(d:=d)(φ:= .own j)⟨h2,h1.symm⟩⟩
theorem mW{E:Pr}{rv:Nat→AV}{fp:Fp}{f:Fr}{H:Av}(R:Bp E Γ rv fp f H){j:Nat}{m:List(K.α×V.α)}(hj:AG Γ.ss j=some(.dom(Qa K V)m))(ha:CA tb Γ a(.own j)):
  ∃id es,eval tb f a= .mp id∧rv j= .mp id∧(∀i,fp j i↔i=id)∧H[id]? =some(.map es)∧fH K V(Pf E Γ.ss fp H)H es m:=by
 obtain⟨_,hv⟩:=ha E rv fp f H R
 obtain⟨id,es,e,hF,hH,h⟩:=R.slots j _ hj
 exact⟨id,es,hv.trans e,e,hF,hH,h⟩
theorem h_lkp{j:Nat}{m:List(K.α×V.α)}{x:K.α}{z:AV}(q:fF K ek)(hz:AaN V z)(ha:CA tb Γ a(.own j))(hj:AG Γ.ss j=some(.dom(Qa K V)m))(hb:CA tb Γ b(.val K x)):
  F1 tb Γ(.lkp ek z false a b)(some())fun _=> .val V((SA q.e m x).getD V.z):=by
 rintro E rv fp f H R _⟨⟩
 obtain⟨id,es,e1,_,_,e2,e3⟩:=mW R hj ha
 have hk:=hb E rv fp f H R
 have he:Lm H(.mp id)=some es:=by simp only[Lm,Mj,e2]
 rcases Um q hk 0 e3 with⟨j',b',y,g1,g2,g3,_,_⟩|⟨g1,g2,_,_⟩
 ·exact⟨b',none,by simp only[Bq,q.ok hk,if_true,e1,he,Option.bind_some,g1,Option.map_some,Bool.false_eq_true,if_false],rfl,by rw[g2];exact g3⟩
 ·exact⟨z,none,by simp only[Bq,q.ok hk,if_true,e1,he,Option.bind_some,g1,Option.map_some,Bool.false_eq_true,if_false],rfl,by rw[g2];exact hz.v⟩
theorem h_lenm{j:Nat}{m:List(K.α×V.α)}(ha:CA tb Γ a(.own j))(hj:AG Γ.ss j=some(.dom(Qa K V)m)):F1 tb Γ(.lenm a)(some(m.length:Int))fun n=> .val(T.int .i64)n:=by
 rintro E rv fp f H R _⟨⟩
 obtain⟨id,es,e1,_,_,e2,e3⟩:=mW R hj ha
 exact⟨.i .i64 es.length,none,by simp only[Bq,e1,Lm,Mj,e2,Option.map_some],rfl,Ca.2(by rw[e3.length])⟩
theorem qB{E:Pr}{rv:Nat→AV}{fp:Fp}{f:Fr}{H:Av}(R:Bp E Γ rv fp f H){j id:Nat}{m m':List(K.α×V.α)}{es':List(AV×AV)}(hj:AG Γ.ss j=some(.dom(Qa K V)m))(e0:rv j= .mp id)(hF: ∀i,fp j i↔i=id)
  (h:fH K V(Pf E Γ.ss fp H)H es' m'): ∃rv' fp',Bp E⟨Γ.ts,(j, .dom(Qa K V)m')::Γ.ss⟩rv' fp' f(H.set id(.map es')):=by
 have hl:Ba Γ.ss j:=Lh hj rfl
 have hm:=h.men R.ltP
 obtain⟨rv',fp',h1,h2,h3⟩:=R.set(j:=j)(S:= .dom(Qa K V)m')(v:=rv j)(o:= .map es')(by rw[hj];rfl)hl hF(by simp only[En];omega)rfl(R.rvlt j hl)(.inl rfl)(R.scal j hl)
  fun rv' fp' e1 e2 hP _=>⟨id,es',by rw[e1,e0],e2,by rw[List.getElem?_set_self(R.fplt j id hl((hF id).2 rfl)).1],h.mono hP⟩
 exact⟨rv',fp',h3⟩
theorem AaS{j:Nat}{m:List(K.α×V.α)}{x:K.α}{y:V.α}(q:fF K ek)(ha:CA tb Γ a(.own j))(hj:AG Γ.ss j=some(.dom(Qa K V)m))(hb:CA tb Γ b(.val K x))(hc:CA tb Γ c(.val V y)):
  Wp tb Γ none(.mup ek a b c)(some(S9 q.e m x y))fun m'=>⟨Γ.ts,(j, .dom(Qa K V)m')::Γ.ss⟩:=by
 rintro E rv fp f H R _⟨⟩
 obtain⟨id,es,e1,e0,hF,e2,e3⟩:=mW R hj ha
 have hk:=hb E rv fp f H R
 have hv:=hc E rv fp f H R
 have he:Mj H id=some es:=by simp only[Mj,e2]
 rcases Um q hk 0 e3 with⟨j',b',y',g1,g2,g3,g4,_⟩|⟨g1,g2,g3,_⟩
 ·obtain⟨rv',fp',h⟩:=qB R hj e0 hF(g4 _ y hv)
  exact⟨.junk,some(H.set id(.map(es.set j'(eval tb f b,eval tb f c)))),by simp only[Bq,q.ok hk,if_true,e1,he,Option.bind_some,g1,Option.map_some,Nat.zero_add],rv',fp',h⟩
 ·obtain⟨rv',fp',h⟩:=qB R hj e0 hF(e3.app(fs:=[(eval tb f b,eval tb f c)])(m:=[(x,y)])⟨hk,hv,trivial⟩)
  exact⟨.junk,some(H.set id(.map(es++[(eval tb f b,eval tb f c)]))),by simp only[Bq,q.ok hk,if_true,e1,he,Option.bind_some,g1,Option.map_some],rv',fp',by rw[g3];exact h⟩
end
end Go.Proofs.YtobejhpigbllpaaGreatDoor.Am
namespace Go.Proofs.YtobejhpigbllpaaGreatDoor.Am
section
variable {tb:CZ}{Γ:Cx}{ks:List Kf}{ρ:Type}{Q:Mb ρ}
def QJ(tb:CZ){τ:Type}(Γj:τ→Cx)(ks:List Kf)(Q:Mb ρ):Mb(τ⊕ρ):=fun E r e f H=>
 match r with
 | .inl p=>e= .normal∧fC E(Γj p)f H
 | .inr r=>e≠ .normal∧ ∃e' f' H',IB tb ks(e,f,H)=some(e',f',H')∧Q E r e' f' H'
def Fo{c:AC}{τ:Type}(Γj:τ→Cx)(k:(p:τ)→Aa tb(Γj p)(rg false [])ks Q)(main:Aa tb Γ c [](QJ tb Γj ks Q)):Aa tb Γ c ks Q:=
 ⟨main.m.bind(Sum.elim(fun p=>(k p).m)some),fun E f H R r hr=>by
  obtain⟨b,hb,hr⟩:=Option.bind_eq_some_iff.1 hr
  obtain⟨e,f1,H1,h1,h2⟩:=main.ok E f H R b hb
  have h1':AX tb(Ck tb)c f H=some(e,f1,H1):=by
   obtain⟨p,hp,h⟩:=Option.bind_eq_some_iff.1 h1
   rw[hp,←h];rfl
  rw[h1']
  cases b with
  |inr r'=>
   simp only[Sum.elim_inr,Option.some.injEq]at hr
   subst hr
   exact h2.2
  |inl p=>
   obtain⟨rfl,R'⟩:=h2
   simp only[Sum.elim_inl]at hr
   obtain⟨e2,f2,H2,h4,h5⟩:=(k p).ok E f1 H1 R' r hr
   exact⟨e2,f2,H2,by simpa [Dy]using h4,h5⟩⟩
def Ea{q:Bool}{τ:Type}{Γj:τ→Cx}(p:τ)(h:uZ(Γj p)Γ):Aa tb Γ(rg q []) [](QJ tb Γj ks Q):=
 ⟨some(.inl p),fun E f H⟨rv,fp,I⟩r hr=>by
  cases hr
  exact⟨.normal,f,H,by simp[Dy,IB],rfl,rv,fp,I.sub h⟩⟩
def Ag{q:Bool}{d:Nat}{o:HT}{l:List AU}{β:Type}{a:β}{φ:β→AL}(h:F1 tb Γ o(some a)φ)(k:(b:β)→Aa tb(Γ.push d(φ b))(rg q l)ks Q):Aa tb Γ(rg q(⟨some d,none,o⟩::l))ks Q:=
 ⟨(k a).m,(Aa.op h k).ok⟩
def Bg{q:Bool}{d t:Nat}{o:HT}{l:List AU}{β:Type}{a:β}{φ:β→AL}(h:F1 tb Γ o(some a)φ)(k:(b:β)→Bk tb(Γ.push d(φ b))q l t):Bk tb Γ q(⟨some d,none,o⟩::l)t:=
 ⟨(k a).m,(Bk.op h k).ok⟩
def Al{d:Option Nat}{o:HT}{l:List AU}{β:Type}{a:β}{Γ':β→Cx}(h:Wp tb Γ d o(some a)Γ')(k:(b:β)→Aa tb(Γ' b)(rg false l)ks Q):Aa tb Γ(rg false(⟨d,none,o⟩::l))ks Q:=
 ⟨(k a).m,(Ct h k).ok⟩
variable {w:List(Option(Nat×Nat))}{N k:Nat}{B:List Ob}{C C':List Cb}{o:HT}{l:List AU}{y:Nat×Nat}
def B2{d:Nat}{β:Type}{a:β}{φ:β→AL}(hq:Zl N k B C y(some d)o=true)(h:F1 tb Γ o(some a)φ)(s:(b:β)→A9 tb(Γ.push d(φ b))N k B C l w ks Q):A9 tb Γ N k B C(⟨some d,none,o⟩::l)(some y::w)ks Q:=
 ⟨(s a).m,(A9.op hq h s).ok⟩
def uV{d:Option Nat}{β:Type}{a:β}{Γ':β→Cx}(hq:lJ B C' d=true)(hb: ∀b,VX tb(Γ' b)B)(hc:Kd Γ k C C')(h:Wp tb Γ d o(some a)Γ')(s:(b:β)→A9 tb(Γ' b)N(k+1)(eO B)C' l w ks Q):A9 tb Γ N k B C(⟨d,none,o⟩::l)(none::w)ks Q:=
 ⟨(s a).m,(DF hq hb hc h s).ok⟩
end
end Go.Proofs.YtobejhpigbllpaaGreatDoor.Am
namespace Go.Proofs.YtobejhpigbllpaaGreatDoor.Am
def ZG(tB te:Nat):List AV→Av→Option(AV×Option Av)
 |[.ptr id off, .i .i64 n],h=>match h[id]? with
  |some(.cells(some t) [a, .nils])=>if off=0∧t=tB∧0≤n∧n≤Bf then some(.tup [],some(h.set id(.cells(some t) [a, .orow h.length 0 0 0])++[.row(some te)false 1 []]))else none
  |_=>none
 |_,_=>none
def lT(P:Program)(g te:Nat):Prop:= ∀(b n:Nat)(w:World),w.cell?⟨b,1,none⟩=some(.slice none 0 0)→b<w.heap.size→w.frozen?⟨b,1,none⟩=false→n≤281474976710656→
 ∃cs:Array Value,n≤cs.size∧Calls P g #[.pointer(some⟨b,0,none⟩), .int .i64 n]w fun e w'=>e= .returned(.tuple #[])∧w'=((w.setCell⟨b,1,none⟩(.slice(some⟨w.heap.size,0,none⟩)0 cs.size)).alloc(.cells cs te)).drew.drew.drew
def entB(P:Program)(g:Nat):Bool:=match P.funcs[g]? with
 |some fn=>fn.body.isSome&& !(fn.name== "runtime.NumGoroutine")
 |none=>false
section
variable {P:Program}{tb:CZ}
theorem XM{g:Nat}(h:entB P g=true)(vs:Array Value)(w:World):(callFunc g vs).run P w= .ok(.enter g vs)w:=by
 unfold entB at h
 split at h
 ·rename_i fn hf
  simp only[Bool.and_eq_true,Bool.not_eq_true']at h
  obtain⟨h1,h2⟩:=h
  obtain⟨c,hc⟩:=Option.isSome_iff_exists.1 h1
  have h2': ¬fn.name= "runtime.NumGoroutine" :=by simpa using h2
  simp[callFunc,hf,hc,h2']
 ·cases h
theorem sO{tB te g:Nat}(hen:entB P g=true)(hg:lT P g te):F0 P tb fun g' args h=>if g'=g then ZG tB te args h else none:=by
 intro g' C args vs r I hr h
 dsimp only at h
 split at h
 ·rename_i hgg
  subst hgg
  unfold ZG at h
  split at h
  ·rename_i hp id off n
   split at h
   ·rename_i t x hid
    split at h
    ·rename_i hc
     obtain⟨rfl,rfl,h0,hm⟩:=hc
     cases h
     obtain⟨v,vs',e1,r1,v2,vs2,e2,r2,e3⟩:=hr
     have e3':vs2=[]:=e3
     have r2':v2= .int .i64 n:=r2
     subst e3';subst e2;subst e1;subst r2'
     obtain⟨_,rfl⟩:=r1
     obtain⟨us,arr,e,fr,⟨h1,hb⟩,h2,h3,h4,h5,h6⟩:=I.obj id _ hid
     obtain⟨ux,us1,eu1,rx,uy,us2,eu2,ry,eu3⟩:=h4
     have eu3':us2=[]:=eu3
     have ry':uy= .slice none 0 0:=ry
     subst eu3';subst eu2;subst eu1;subst ry'
     have hlt:(C.φ id).blk<C.w.heap.size:=I.lt id(AT hid)
     have hidl:=AT hid
     have c1:C.w.cell?⟨(C.φ id).blk,1,none⟩=some(.slice none 0 0):=by
      have:=h5 1(.slice none 0 0)rfl
      simpa using this
     have hnn:((n.toNat:Nat):Int)=n:=Int.toNat_of_nonneg h0
     have hmm:n.toNat≤281474976710656:=by unfold Bf at hm;omega
     obtain⟨cs,hcs,hcall⟩:=hg(C.φ id).blk n.toNat C.w c1 hlt(h6 1(by simp))hmm
     rw[hnn]at hcall
     refine .inr⟨g',_,XM hen _ _,hcall.mono ?_⟩
     rintro ee w'⟨rfl,hw'⟩
     have hszA:C.w.heap.size<(C.w.alloc(.cells cs te)).heap.size:=by rw[GD];omega
     obtain⟨XA,hIA,hφA⟩:=more I(p:=⟨C.w.heap.size,0,cs.size⟩)(o:=BH.row(some te)false 1 [])(w:=C.w.alloc(.cells cs te))⟨rfl,rfl,rfl⟩hszA rfl(fun b hb=>alloc_old _ _ hb)
     have hfA: ∀o,(C.w.alloc(.cells cs te)).frozen?⟨C.w.heap.size,o,none⟩=false:=fun o=>by simp only[World.frozen?,HS];simp
     have IA:=hIA⟨[],cs,te,(0,0),⟨HS _ _,Nat.le_refl _,fun k hk=>by cases hk;rfl⟩,rfl,by omega,by simp,rfl,by simp,fun j v hj=>by simp at hj,fun _ o _=>hfA o,fun _ o _ _=>hfA o⟩
     have hφid:(C.more⟨C.w.heap.size,0,cs.size⟩(BH.row(some te)false 1 [])(C.w.alloc(.cells cs te))).φ id=C.φ id:=if_neg(by omega)
     have hgA:(C.more⟨C.w.heap.size,0,cs.size⟩(BH.row(some te)false 1 [])(C.w.alloc(.cells cs te))).H[id]? =some(.cells(some t) [x, .nils]):=(List.getElem?_append_left hidl).trans hid
     have hws:w'.heap.size=C.w.heap.size+1:=by rw[hw'];simp
     have hwn:w'.heap[C.w.heap.size]? =some(.cells cs te):=by
      rw[hw']
      have:(C.w.setCell⟨(C.φ id).blk,1,none⟩(.slice(some⟨C.w.heap.size,0,none⟩)0 cs.size)).heap.size=C.w.heap.size:=by simp
      have hq:=HS(C.w.setCell⟨(C.φ id).blk,1,none⟩(.slice(some⟨C.w.heap.size,0,none⟩)0 cs.size))(.cells cs te)
      rw[this]at hq
      exact hq
     have hwo: ∀b,b<C.w.heap.size→w'.heap[b]? =(C.w.setCell⟨(C.φ id).blk,1,none⟩(.slice(some⟨C.w.heap.size,0,none⟩)0 cs.size)).heap[b]? :=fun b hb=>by
      rw[hw']
      exact alloc_old _ _(by simpa using hb)
     have hwid:w'.heap[(C.φ id).blk]? =some(.cells(arr.setIfInBounds 1(.slice(some⟨C.w.heap.size,0,none⟩)0 cs.size))e fr):=by
      rw[hwo _ hlt];exact SM h1
     let D0:=C.more⟨C.w.heap.size,0,cs.size⟩(BH.row(some te)false 1 [])(C.w.alloc(.cells cs te))
     obtain⟨X,hI⟩:=uY(C:=D0)(D:=⟨D0.φ,D0.H.set id(.cells(some t) [x, .orow C.H.length 0 0 0]),w'⟩)IA(o':= .cells(some t) [x, .orow C.H.length 0 0 0])(by rw[hw'];exact⟨rfl,rfl,rfl⟩)hgA rfl(fun _ _=>rfl)
      (by show(C.w.alloc(.cells cs te)).heap.size≤w'.heap.size;rw[GD,hws];exact Nat.le_refl _)
      (fun b hb hne=>by
       have hb':b<C.w.heap.size+1:=by have:b<(C.w.alloc(.cells cs te)).heap.size:=hb;rw[GD]at this;exact this
       show w'.heap[b]? =(C.w.alloc(.cells cs te)).heap[b]?
       by_cases hbe:b=C.w.heap.size
       ·subst hbe;rw[hwn,HS]
       ·have hbl:b<C.w.heap.size:=by omega
        have hne':b≠(C.φ id).blk:=fun e=>hne(by rw[e];exact congrArg La.blk hφid.symm)
        rw[hwo b hbl,alloc_old _ _ hbl,LR hne'])
      (.inl rfl)(fun _=>⟨rfl,rfl⟩)(fun _ _ _ _ e=>by cases e)
     have hrow:rowAt(D0.H.set id(.cells(some t) [x, .orow C.H.length 0 0 0]))C.H.length=some(false,1,[]):=by
      have:(D0.H.set id(BH.cells(some t) [x, .orow C.H.length 0 0 0]))[C.H.length]? =some(BH.row(some te)false 1 []):=by
       rw[List.getElem?_set_ne(by omega)]
       show(C.H++[_])[C.H.length]? =_
       simp
      simp only[rowAt,this]
     have hI2:=hI(by
      show Obj _(D0.φ id)_
      rw[hφid]
      refine⟨[ux, .slice(some⟨C.w.heap.size,0,none⟩)0 cs.size],_,e,fr,⟨hwid,hb⟩,by simpa using h2,by simp only[List.all_cons,List.all_nil,Bool.and_true,Bool.and_eq_true]at h3 ⊢;exact⟨h3.1,rfl⟩,⟨ux,_,rfl,FN.ext(XA.trans X)rx,_,_,rfl,?_,rfl⟩,?_,?_⟩
      ·refine⟨⟨_,_,rfl⟩,false,1,[],hrow,Nat.le_refl _,fun _=>⟨Nat.le_refl _,0,cs.size,?_,Nat.zero_le _,fun h=>absurd h(by omega),?_,?_⟩⟩
       ·show _=Value.slice(some⟨(D0.φ C.H.length).blk,0,none⟩)0 cs.size
        rw[show D0.φ C.H.length=_ from hφA]
       ·show 0+cs.size*1≤(D0.φ C.H.length).size
        rw[show D0.φ C.H.length=_ from hφA];simp
       ·show(D0.φ C.H.length).base≤0
        rw[show D0.φ C.H.length=_ from hφA];exact Nat.le_refl _
      ·intro j v hj
       simp only[World.cell?,hwid,Nat.zero_add]
       match j,hj with
       |0,hj=>
        have:=h5 0 ux rfl
        simp only[World.cell?,h1]at this
        simp only[List.getElem?_cons_zero,Option.some.injEq]at hj
        subst hj
        simpa using this
       |1,hj=>
        simp only[List.getElem?_cons_succ,List.getElem?_cons_zero,Option.some.injEq]at hj
        subst hj
        have h2':arr.size=2:=by simpa using h2
        simp[h2']
       |j+2,hj=>simp at hj
      ·intro o ho
       have:=h6 o(by simpa using ho)
       simp only[World.frozen?,h1]at this
       simp only[World.frozen?,hwid]
       exact this)
     refine⟨_,_,rfl,XA.trans X,hI2,rfl,?_,⟨[],rfl,rfl⟩⟩
     show(C.H++[BH.row(some te)false 1 []]).set id _=(C.H.set id _++[_])
     rw[List.set_append_left _ _ hidl]
    ·cases h
   ·cases h
  ·cases h
 ·cases h
end
end Go.Proofs.YtobejhpigbllpaaGreatDoor.Am
namespace Go.Proofs.YtobejhpigbllpaaGreatDoor.Am
def RH(tS ncc ngr:Nat):CM:=⟨false,2,25,[],
 (.seq(rg false [⟨some 4,none, .mv(.t 0)⟩,⟨some 5,none, .call ncc [(.t 4)]⟩])
 (.seq(.seq(rg false [⟨some 6,none, .mv(.t 1)⟩,⟨some 7,none, .bin .lss(.t 6)(.k(.i .i64 0))⟩])
 (.cond(.t 7)
  (rg false [⟨some 8,none, .mkif tS(.k(.s [115,116,114,105,110,103,115,46,66,117,105,108,100,101,114,46,71,114,111,119,58,32,110,101,103,97,116,105,118,101,32,99,111,117,110,116]))⟩,⟨none,none, .die⟩])
  .skip))
 (.seq(rg true [⟨some 9,none, .mv(.t 0)⟩,⟨some 10,none, .nilc(.t 9)⟩,⟨some 11,none, .fa 1(.t 10)⟩,⟨some 12,none, .ld false 1(.t 11)⟩,⟨some 13,none, .capn(.t 12)⟩,⟨some 14,none, .mv(.t 0)⟩,⟨some 15,none, .nilc(.t 14)⟩,⟨some 16,none, .fa 1(.t 15)⟩,⟨some 17,none, .ld false 1(.t 16)⟩,⟨some 18,none, .len(.t 17)⟩,⟨some 19,none, .bin .sub(.t 13)(.t 18)⟩,⟨some 20,none, .mv(.t 1)⟩,⟨some 21,none, .bin .lss(.t 19)(.t 20)⟩])
 (.cond(.t 21)
  (rg false [⟨some 22,none, .mv(.t 0)⟩,⟨some 23,none, .mv(.t 1)⟩,⟨some 24,none, .call ngr [(.t 22),(.t 23)]⟩])
  .skip))))⟩
section
variable {tb:CZ}{tB te tS ncc nne ngw ngr:Nat}{h:Av}{id:Nat}{a b:AV}
theorem rU{cl:Nat→List AV→Av→KH}{d:Option Nat}{o:HT}{l:List AU}{f:Fr}{v:AV}{r:Option Fr}(e:Bq tb cl(eval tb f)h o=some(v,none))(k:Ih tb cl h l(put f d v)=r):Ih tb cl h(⟨d,none,o⟩::l)f=r:=by
 simp[Ih,wanted,e,k]
theorem vW{l:List AU}{y:AC}{f f':Fr}(e:Ih tb(Ck tb)h l f=some f'):AX tb(Ck tb)(.seq(rg true l)y)f h=AX tb(Ck tb)y f' h:=by
 simp[AX,rg,e]
theorem gQ{c:AO}{x y:AC}{f:Fr}{b:Bool}(e:eval tb f c= .b b):AX tb(Ck tb)(.cond c x y)f h=if b then AX tb(Ck tb)x f h else AX tb(Ck tb)y f h:=by
 simp[AX,e]
theorem zM{n:Int}{h1 G:Av}(h0:0≤n)(hc:B3 tb(Ck tb)h ncc [.ptr id 0]=some(.tup [],some h1))(hld:load h1 false 1(.ptr id 1)=some .nils)(hg:if 0<n then B3 tb(Ck tb)h1 ngr [.ptr id 0, .i .i64 n]=some(.tup [],some G)else G=h1):
  ∃f',AX tb(Ck tb)(RH tS ncc ngr).body [(0, .ptr id 0),(1, .i .i64 n)]h=some(.normal,f',G):=by
 have hn0:decide(n<0)=false:=by simp;omega
 have key: ∃F,AX tb(Ck tb)(RH tS ncc ngr).body [(0, .ptr id 0),(1, .i .i64 n)]h=AX tb(Ck tb)(.cond(.t 21)
  (rg false [⟨some 22,none, .mv(.t 0)⟩,⟨some 23,none, .mv(.t 1)⟩,⟨some 24,none, .call ngr [(.t 22),(.t 23)]⟩])
  .skip)F h1∧get F 21= .b(decide(0<n))∧get F 0= .ptr id 0∧get F 1= .i .i64 n:=by
  apply Exists.intro
  refine⟨?_,?_⟩
  ·unfold RH
   simp only
   refine(Jl(Nb(v:= .ptr id 0)(u:=none)rfl(Nb(v:= .tup [])(u:=some h1)(Wm(by exact hc))rfl))).trans ?_
   refine(pQ((Jl(Nb(v:= .i .i64 n)(u:=none)rfl(Nb(v:= .b false)(u:=none)(by rw[←hn0];rfl)rfl))).trans((gQ(b:=false)rfl).trans rfl))).trans ?_
   exact(vW(rU(v:= .ptr id 0)rfl(rU(v:= .ptr id 0)rfl(rU(v:= .ptr id 1)rfl(rU(v:= .nils)(aP(by exact hld))(rU(v:= .i .i64 0)rfl(rU(v:= .ptr id 0)rfl(rU(v:= .ptr id 0)rfl(rU(v:= .ptr id 1)rfl(rU(v:= .nils)(aP(by exact hld))(rU(v:= .i .i64 0)rfl(rU(v:= .i .i64 0)rfl(rU(v:= .i .i64 n)rfl(rU(v:= .b(decide(0<n)))rfl rfl))))))))))))))
  ·exact⟨rfl,rfl,rfl⟩
 obtain⟨F,e,f21,f0,f1⟩:=key
 rw[e,gQ(b:=decide(0<n))(by simpa [eval]using f21)]
 by_cases hp:0<n
 ·rw[if_pos hp]at hg
  rw[if_pos(by simpa using hp)]
  simp only[AX,rg,Bool.false_eq_true,if_false]
  rw[Nb(v:= .ptr id 0)(u:=none)(by simp[Bq,eval,f0])(Nb(v:= .i .i64 n)(u:=none)(by simp[Bq,eval,get,put,f1])(Nb(v:= .tup [])(u:=some G)(Wm(by exact hg))rfl))]
  exact⟨_,rfl⟩
 ·rw[if_neg hp]at hg
  rw[if_neg(by simpa using hp),hg]
  exact⟨_,rfl⟩
theorem gr_eval(hf:tb.prim ngw=none∧tb.fns ngw=some(RH tS ncc ngr))(hcc:tb.prim ncc=none∧tb.fns ncc=some(MW tB nne))(hne:tb.prim nne=some OU)(hgr:tb.prim ngr=some(ZG tB te))(hh:h[id]? =some(.cells(some tB) [a, .nils]))(ha:a= .nilp∨a= .ptr id 0)
  {n:Int}(h0:0≤n)(hm:n≤Bf):
  B3 tb(Ck tb)h ngw [.ptr id 0, .i .i64 n]=some(.tup [],some(if 0<n then h.set id(.cells(some tB) [.ptr id 0, .orow h.length 0 0 0])++[.row(some te)false 1 []]else h.set id(.cells(some tB) [.ptr id 0, .nils]))):=by
 have hc:=Wl hcc hne hh ha
 have hid:=(List.getElem?_eq_some_iff.1 hh).1
 have hs:(h.set id(BH.cells(some tB) [.ptr id 0, .nils]))[id]? =some(.cells(some tB) [.ptr id 0, .nils]):=List.getElem?_set_self hid
 have h2:=G9 hs
 simp only[B3,hf.1]
 rw[PS,hf.2]
 simp only[Option.bind_some]
 have hld:load(h.set id(BH.cells(some tB) [.ptr id 0, .nils]))false 1(.ptr id 1)=some .nils:=by simp[load,place,h2.1,Hu,sub]
 by_cases hp:0<n
 ·have hgc:B3 tb(Ck tb)(h.set id(.cells(some tB) [.ptr id 0, .nils]))ngr [.ptr id 0, .i .i64 n]=some(.tup [],some(h.set id(.cells(some tB) [.ptr id 0, .orow h.length 0 0 0])++[.row(some te)false 1 []])):=by
   simp only[B3,hgr,ZG,hs]
   simp[h0,hm,List.set_set]
  obtain⟨f',e1⟩:=zM(tb:=tb)(tS:=tS)(ncc:=ncc)(ngr:=ngr)h0 hc hld(by rw[if_pos hp];exact hgc)
  rw[ON(tb:=tb)(h:=h)(fn:=RH tS ncc ngr)(args:=[.ptr id 0, .i .i64 n])(vs:=[])rfl rfl e1(.inr rfl)rfl,if_pos hp]
  exact congrArg some(TR h.length _(aO(te:=te)(tB:=tB)(s:=[])hid rfl) []rfl false)
 ·obtain⟨f',e1⟩:=zM(tb:=tb)(tS:=tS)(ncc:=ncc)(ngr:=ngr)h0 hc hld(by rw[if_neg hp])
  rw[ON(tb:=tb)(h:=h)(fn:=RH tS ncc ngr)(args:=[.ptr id 0, .i .i64 n])(vs:=[])rfl rfl e1(.inr rfl)rfl,if_neg hp]
  obtain⟨u,hu,rfl⟩:=LK false h.length(h.set id(.cells(some tB) [.ptr id 0, .nils]))(by simp) []rfl
  exact congrArg some hu
variable {Γ:Cx}{x y:AO}
def jO(l:AN)(n:Int):Option AN:=if l=[]∧0≤n∧n≤Bf then some []else none
theorem M_bldR{d j:Nat}{l:AN}{n:Int}(hcc:tb.prim ncc=none∧tb.fns ncc=some(MW tB nne))(hne:tb.prim nne=some OU)(hf:tb.prim ngw=none∧tb.fns ngw=some(RH tS ncc ngr))(hgr:tb.prim ngr=some(ZG tB te))
  (ha:CA tb Γ x(.own j))(hj:AG Γ.ss j=some(.dom(OP tB te false)l))(hb:CA tb Γ y(.val(T.int .i64)n)):
  Wp tb Γ(some d)(.call ngw [x,y])(jO l n)fun _=>⟨(d, .junk)::Γ.ts,(j, .dom(OP tB te(decide(0<n)))([]:AN))::Γ.ss⟩:=by
 intro E rv fp f H R l' hl'
 simp only[jO]at hl'
 split at hl'
 ·rename_i hm
  cases hl'
  obtain⟨rfl,h0,hm⟩:=hm
  obtain⟨hl,hv⟩:=ha E rv fp f H R
  obtain⟨id,e,⟨_,_,a,hx,hh,hF⟩|⟨hg,r,hne',hh,hr,hF⟩⟩:=R.slots j _ hj
  ·have hid:=AT hh
   have hev:=gr_eval(te:=te)hf hcc hne hgr hh hx h0 hm
   by_cases hp:0<n
   ·rw[if_pos hp]at hev
    obtain⟨rv',fp',g1,g2,g3⟩:=R.dom(D:=OP tB te(decide(0<n)))(y:=([]:AN))(G:=H.set id(.cells(some tB) [.ptr id 0, .orow H.length 0 0 0])++[.row(some te)false 1 []])(F':=fun i=>i=id∨i=H.length)(by rw[hj];rfl)hl(by simp)
     (fun i hi hn=>by rw[List.getElem?_append_left(by simpa using hi)];exact List.getElem?_set_ne fun e=>hn((hF i).2 e.symm))
     (fun i hi=>by
      rcases hi with rfl|rfl
      ·exact .inl((hF _).2 rfl)
      ·exact .inr⟨Nat.le_refl _,by simp⟩)
     (by
      rw[Qq]
      have:=H6(l:=H)(i:=id)(o:= .cells(some tB) [.ptr id 0, .orow H.length 0 0 0])(m:=H.length+1)(by have:=R.wf;omega)(by simp only[En,Bh,B9];omega)
      simp only[CE,En,CN,List.length_append,List.length_set,List.length_cons,List.length_nil]
      omega)rfl
     (fun Q=>⟨id,e, .inr⟨.inl(by simpa using hp),H.length,by omega,by
      rw[List.getElem?_append_left(by simpa using hid)]
      exact List.getElem?_set_self hid,by
      rw[List.getElem?_append_right(by simp)];simp[Bw],fun i=>Iff.rfl⟩⟩)
    refine⟨.tup [],some _,?_,rv',fp',g3.push(d:=d)(φ:= .junk)trivial⟩
    simp only[Bq,List.map_cons,List.map_nil,hv,e,Ca.1(hb E rv fp f H R)]
    exact hev
   ·rw[if_neg hp]at hev
    obtain⟨rv',fp',g1,g2,g3⟩:=R.dom(D:=OP tB te(decide(0<n)))(y:=([]:AN))(G:=H.set id(.cells(some tB) [.ptr id 0, .nils]))(F':=fp j)(by rw[hj];rfl)hl(by simp)
     (fun i hi hn=>List.getElem?_set_ne fun e=>hn((hF i).2 e.symm))(fun i hi=> .inl hi)
     (by simp only[List.length_set];exact H6 R.wf(by simp only[En,Bh,B9];omega))rfl
     (fun Q=>⟨id,e, .inl⟨by simpa using hp,rfl,_, .inr rfl,List.getElem?_set_self hid,hF⟩⟩)
    refine⟨.tup [],some _,?_,rv',fp',g3.push(d:=d)(φ:= .junk)trivial⟩
    simp only[Bq,List.map_cons,List.map_nil,hv,e,Ca.1(hb E rv fp f H R)]
    exact hev
  ·rcases hg with hg|hg
   ·cases hg
   ·exact absurd rfl hg
 ·cases hl'
end
end Go.Proofs.YtobejhpigbllpaaGreatDoor.Am
namespace Go.Proofs.YtobejhpigbllpaaGreatDoor.Am
section
variable {tb:CZ}{Γ:Cx}
variable {ks:List Kf}{ρ:Type}{Q:Mb ρ}
def QG(n:Int):UInt8:=UInt8.ofNat(n%256).toNat
def Xe(n:Int):UInt16:=UInt16.ofNat(n%65536).toNat
def CB(n:Int):UInt32:=UInt32.ofNat(n%4294967296).toNat
def BS(n:Int):UInt64:=UInt64.ofNat(n%18446744073709551616).toNat
def XR(a b:List UInt8):Int:=Extern.BytealgCompare.cmp⟨a.toArray⟩⟨b.toArray⟩
theorem Ty.bytes{P:Nat→Prop}{H:Av}{v:AV}{g:GS UInt8}(h:(T.sl T.u8).V P H v g):PV H v=some g.l:=by
 obtain⟨els,e,h'⟩:=(Ka.1 h).els
 have e':Ez H 1 v=some els:=e
 have hs: ∀l,v≠ .s l:=by rintro l rfl;simp[Ez]at e'
 cases v<;>first
  |exact absurd rfl(hs _)
  |(simp only[PV,e',Option.bind_some];exact Q3 h')
theorem AH.cmp{g:Nat}(hp:tb.prim g=some P7):AH tb g [T.sl T.u8,T.sl T.u8] [T.int .i64]fun a=>some(XR a.1.l a.2.l):=by
 rintro P h args⟨x,y⟩_ _⟨v,q,rfl,h1,w,rfl,h2⟩r hr
 cases hr
 refine⟨.i .i64(XR x.l y.l),none,?_,rfl,[.i .i64(XR x.l y.l)],rfl,_,rfl,Ca.2 rfl⟩
 simp only[B3,hp,P7,Ty.bytes h1,Ty.bytes h2,Option.bind_some,Option.map_some]
 rfl
end
end Go.Proofs.YtobejhpigbllpaaGreatDoor.Am
namespace Go.Proofs.YtobejhpigbllpaaGreatDoor.Am
section
variable {tb:CZ}{Γ:Cx}{a b:AO}
theorem aH{sz:Nat}: ∀(k:Nat)(css:List(List AV))(cs:List AV),css.length=k→(∀e∈css,e.length=sz)→cs.take(k*sz)=css.flatten→BR sz k cs=css
 |0,css,cs,h,_,_=>by rw[List.eq_nil_of_length_eq_zero h];rfl
 |k+1,y::css,cs,hk,hall,hc=>by
  have hy:=hall y(by simp)
  simp only[BR]
  simp only[List.flatten_cons]at hc
  have hA:cs.take sz=y:=by
   have:=congrArg(List.take sz)hc
   rw[List.take_take,Nat.min_eq_left(by rw[Nat.succ_mul];omega),List.take_left' hy]at this
   exact this
  have hB:(cs.drop sz).take(k*sz)=css.flatten:=by
   have:=congrArg(List.drop sz)hc
   rw[List.drop_left' hy,List.drop_take,Nat.succ_mul,Nat.add_sub_cancel]at this
   exact this
  rw[hA,aH k css(cs.drop sz)(by simpa using hk)(fun e he=>hall e(by simp[he]))hB]
theorem yG{t u:T}{x:t.α}{j o o' k m n N sz:Nat}{ps:List(Nat×AL)}(F:AM t(Ay n u)o')(hsz:sz=u.sz)(ha:CA tb Γ a(.oc j(o+k*sz)sz m))(hj:AG Γ.ss j=some(.cells ps))(hp:Js ps o=some(N, .val t x,o'))(hkm:k+m≤n)
  {E:Pr}{rv:Nat→AV}{fp:Fp}{f:Fr}{H:Av}(R:Bp E Γ rv fp f H):
  ∃id els,id<H.length∧fp j id∧eval tb f a= .ocel u.sz id(o+k*u.sz)m∧Ez H u.sz(.ocel u.sz id(o+k*u.sz)m)=some els∧CJ u(Pf E Γ.ss fp H)H els(((F.get x).l.drop k).take m):=by
 subst hsz
 obtain⟨l,id,e,hv⟩:=ha E rv fp f H R
 obtain⟨cs,h0,h2,h3⟩:=Gc R hj e
 obtain⟨b',c,e0,e1,e2,e3,e4,e5,_⟩:=FH h3 hp
 have hfp:fp j id:=(h0 id).2 rfl
 have hlt:=(R.fplt j id l hfp).1
 have hlen:=t.len e4
 have hle:=F.le
 have hszA:(Ay n u).sz=n*u.sz:=rfl
 rw[hszA]at hle
 have hmul:k*u.sz+m*u.sz≤n*u.sz:=by rw[←Nat.add_mul];exact Nat.mul_le_mul_right _ hkm
 obtain⟨css,q1,q2⟩:=F.getR e4
 have hlc:css.length=n:=by rw[q2.length];exact(F.get x).len
 have hs1:=e5 o'(n*u.sz)(by omega)
 rw[←e1]at hs1
 have hch:BR u.sz n(cs.drop o)=css:=aH n css(cs.drop o)hlc q2.lens(by rw[show(cs.drop o).take(n*u.sz)=sub cs o(n*u.sz)from rfl,hs1,←q1];rfl)
 have hsub:=Oy(sz:=u.sz)(len:=n)(c:=k)(d:=k+m)(l:=cs.drop o)(by omega)hkm
 refine⟨id,(css.take(k+m)).drop k,hlt,hfp,hv,?_,?_⟩
 ·simp only[Ez,h2,Option.bind_some]
  rw[if_pos⟨trivial,by omega⟩]
  rw[←hch,hsub,List.drop_drop,Nat.add_sub_cancel_left]
 ·have:=(q2.take(n:=k+m)).drop(n:=k)
  simp only[List.drop_take,Nat.add_sub_cancel_left]at this ⊢
  exact this
theorem a_s{t u:T}{x:t.α}{j o o' k m n N sz:Nat}{ps:List(Nat×AL)}(F:AM t(Ay n u)o')(hsz:sz=u.sz)(ha:CA tb Γ a(.oc j(o+k*sz)sz m))(hj:AG Γ.ss j=some(.cells ps))(hp:Js ps o=some(N, .val t x,o'))(hkm:k+m≤n):
  ArgP tb Γ a(T.sl u)(.mk(((F.get x).l.drop k).take m)):=by
 intro E rv fp f H R
 obtain⟨id,els,h1,_,h3,h4,h5⟩:=yG F hsz ha hj hp hkm R
 rw[h3]
 exact Ka.2⟨h1,els,h4,h5.mono fun i hi=>⟨Pf.lt R.le hi,rfl⟩⟩
theorem jM{c:Prop} [Decidable c]{g:Nat}{As Rs:List T}{F:BU As→Option(BU Rs)}{l:List AO}{x:BU As}(sp:AH tb g As Rs F)(fl:T0 Rs)(hx:c→Zv tb Γ As l x):F1 tb Γ(.call g l)(if c then F x else none)fun r=>wQ Rs r:=by
 intro E rv fp f H R r hr
 split at hr
 ·rename_i hc;exact qN sp fl(hx hc)E rv fp f H R r hr
 ·cases hr
theorem L8{c:Prop} [Decidable c]{g:Nat}{As:List T}{t:T}{F:BU As→Option(BU [t])}{l:List AO}{x:BU As}(sp:AH tb g As [t]F)(fl:T0 [t])(hx:c→Zv tb Γ As l x):F1 tb Γ(.call g l)(if c then F x else none)fun r:t.α=> .val t r:=jM sp fl hx
theorem tU{c:Prop} [Decidable c]{g:Nat}{As:List T}{t u:T}{Rs:List T}{F:BU As→Option(BU(t::u::Rs))}{l:List AO}{x:BU As}(sp:AH tb g As(t::u::Rs)F)(fl:T0(t::u::Rs))(hx:c→Zv tb Γ As l x):
  F1 tb Γ(.call g l)(if c then F x else none)fun r=> .tup(rS(t::u::Rs)r):=jM sp fl hx
theorem n_oc{t u:T}{x:t.α}{j o o' k m n N sz:Nat}{ps:List(Nat×AL)}(F:AM t(Ay n u)o')(hsz:sz=u.sz)(ha:CA tb Γ a(.oc j(o+k*sz)sz m))(hj:AG Γ.ss j=some(.cells ps))(hp:Js ps o=some(N, .val t x,o'))(hkm:k+m≤n):
  AaR tb Γ a u(((F.get x).l.drop k).take m):=by
 intro E rv fp f H R
 obtain⟨id,els,h1,_,h3,h4,h5⟩:=yG F hsz ha hj hp hkm R
 exact⟨els,by rw[h3];exact h4,h5⟩
theorem M_if{c:Prop} [Decidable c]{d:Option Nat}{o:HT}{α:Type}{A:Option α}{G:α→Cx}(h:c→Wp tb Γ d o A G):Wp tb Γ d o(if c then A else none)G:=by
 intro E rv fp f H R r hr
 split at hr
 ·rename_i hc;exact h hc E rv fp f H R r hr
 ·cases hr
variable {ks:List Kf}{ρ:Type}{Q:Mb ρ}
def Ab{q:Bool}{d n:Nat}{l:List AU}{φ:AL}(h:BD Γ.ts n=some φ)(k:Aa tb(Γ.push d φ)(rg q l)ks Q):Aa tb Γ(rg q(⟨some d,none, .mv(.t n)⟩::l))ks Q:=Ai(A1(Ae h))k
def Ah{q:Bool}{x y:AC}(s:Aa tb Γ x(.seq y::ks)Q):Aa tb Γ(rg q [])(.seq(.seq x y)::ks)Q:=Ac(Ad s)
theorem A4{op:BinOp}{a b:AO}{x y:Int}(h:qK op=true)(ha:CA tb Γ a(.val(T.int .i64)x))(hb:CA tb Γ b(.val(T.int .i64)y)):F1 tb Γ(.bin op a b)(some(cmpI op x y))fun z=> .val T.b z:=EV(I:=IT.int .i64)h ha hb
abbrev oz(d:Nat)(x:HT):AU:=⟨some d,none,x⟩
abbrev on(x:HT):AU:=⟨none,none,x⟩
def uG(n:Int):AN:=(Utf8.encode n).data.toList
theorem h_cvcE{I:IT}{x:I.t.α}(ha:CA tb Γ a(.val I.t x)):F1 tb Γ(.cvc a)(some(uG(I.toI x)))fun z=> .val Ax z:=h_cvcI ha
end
theorem sB{p:Prop}(h:p:=by repeat' constructor):p:=h
abbrev B8(tb:CZ)(c:CM)(As Rs:List T)(a:BU As):=Aa tb⟨Vi As 0 a,[]⟩c.body [](QRes Rs c.res)
end Go.Proofs.YtobejhpigbllpaaGreatDoor.Am
