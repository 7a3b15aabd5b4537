/-
  Plain laws: addresses as they are read by the program.
  Plain laws: sixteen bytes as they are read by the program; addresses; endpoints.
  Plain laws: sixteen bytes as they are read by the program; addresses; endpoints.
  Plain laws: the colon reader as a whole; addresses; endpoints as they are read.
  Plain laws: events: right ones, their texts, and that what is read is what was written (TraceLines).
  Plain laws: an event's text is read as the event (TraceLines).
  Plain laws: the references' readers: numbers, digits of sixteen, keys, groups.
  Plain laws: an event is read of any text (TraceParses).
  Plain laws: what is read is right.
  Plain laws: the references' readers: four bytes, groups of sixteen, addresses.
  Plain laws: the references' readers: sixteen bytes, addresses.
  Plain laws: the references' readers: addresses, endpoints.
  Plain laws: the reference's reading of an event is the same.
  The law.
-/
import Derived.Test.YtobejhpigbllpaaGreatDoorX5
namespace Go.Proofs.YtobejhpigbllpaaGreatDoor.Am
theorem jR: ∀k:Fin 256,KJ (UInt8.ofNat k.1)=some (Tl (UInt8.ofNat k.1)):=by decide+kernel
theorem WE(c:UInt8):KJ c=some (Tl c):=by
 have:=jR ⟨c.toNat,c.toNat_lt⟩
 simpa using this
theorem or4{x y:Nat}(hx:x<4096)(hy:y<16):F2 .or .u16 ((16*x:Nat):Int) (y:Int)=((16*x+y:Nat):Int):=by
 show((BitVec.ofInt 16 ((16*x:Nat):Int)|||BitVec.ofInt 16 (y:Int)).toNat:Int)=_
 rw[BitVec.toNat_or]
 have e1:(BitVec.ofInt 16 ((16*x:Nat):Int)).toNat=16*x:=by rw[BitVec.toNat_ofInt];omega
 have e2:(BitVec.ofInt 16 (y:Int)).toNat=y:=by rw[BitVec.toNat_ofInt];omega
 rw[e1,e2,show 16*x=2^4*x from rfl,←Nat.two_pow_add_eq_or_of_lt hy]
theorem wD{γ:Type}{K:UInt16→Option γ}(x v:Nat)(hx:x<4096)(hv:v<16):((if((4:UInt64).toNat:Int)<0 then none else some (CV (((UInt16.ofNat x).toNat:Int)*2^(min ((4:UInt64).toNat:Int).toNat 16)))).bind fun z=>K (CV (F2 .or .u16 (z.toNat:Int) ((UInt16.ofNat v).toNat:Int))))=K (UInt16.ofNat (16*x+v)):=by
 have e4:(2:Int)^(min ((4:UInt64).toNat:Int).toNat 16)=16:=by decide
 have ex:(UInt16.ofNat x).toNat=x:=by rw[UInt16.toNat_ofNat'];omega
 have ev:(UInt16.ofNat v).toNat=v:=by rw[UInt16.toNat_ofNat'];omega
 rw[if_neg (by decide),Option.bind_some,e4,ex,ev,show(x:Int)*16=((16*x:Nat):Int) by omega,Km (by omega),or4 hx hv]
 congr 1
 apply UInt16.toNat_inj.1
 rw[Km (by omega),UInt16.toNat_ofNat'];omega
theorem Sj{c:UInt8}{v:Nat}(h:IL (Tl c)=some v):v<16:=Si h
theorem nJ: ∀(s:AH) (n m:Nat),V0 n s=some m→m<(n+1)*16^s.length
 |[],n,m,h=>by cases h;simp
 |c::s,n,m,h=>by
  rw[V0]at h
  obtain⟨v,hv,h⟩:=Option.bind_eq_some_iff.1 h
  have h1:=nJ s _ m h
  have h2:=Sj hv
  have:(16*n+v+1)*16^s.length≤(16*(n+1))*16^s.length:=Nat.mul_le_mul_right _ (by omega)
  rw[List.length_cons,Nat.pow_succ]
  calc m<_:=h1
   _≤_:=this
   _=_:=by rw[Nat.mul_comm (16^s.length) 16,←Nat.mul_assoc,Nat.mul_comm 16 (n+1)]
theorem YB{s:AH}{i:Nat}(h:i<s.length)(n:Nat):V0 n (s.drop i)=(IL (Tl s[i])).bind fun v=>V0 (16*n+v) (s.drop (i+1)):=by
 rw[List.drop_eq_getElem_cons h,V0]
noncomputable def stepG(s:AH)(s7:UInt16×Int):Option ((UInt16×Int)⊕(UInt16⊕(UInt16×Int))):=
 if(decide (s7.2<(s.length:Int)))=true then
 (DC s s7.2).bind fun x10=>
 (KJ x10).bind fun x11=>
 (HI x11).bind fun x12=>
 if(!x12.2)=true then
 (some ((0:UInt16),5)).map fun r=> .inr (.inr r)
 else
 (if((4:UInt64).toNat:Int)<0 then none else some (CV ((s7.1.toNat:Int)*2^(min ((4:UInt64).toNat:Int).toNat 16)))).bind fun x16=>
 let x17:=CV (F2 .or .u16 (x16.toNat:Int) (x12.1.toNat:Int))
 some (.inl (x17,IntKind.i64.wrap (s7.2+1)))
 else
 some (.inr (.inl s7.1))
theorem pK{s:AH}{i n:Nat}(h4:s.length≤4)(hi:i<s.length)(hn:n<16^i):stepG s (UInt16.ofNat n,(i:Int))=(match IL (Tl s[i])with|some v=>some (.inl (UInt16.ofNat (16*n+v),((i+1:Nat):Int)))|none=>some (.inr (.inr (0,5)))):=by
 unfold stepG
 dsimp only
 rw[if_pos (by rw[decide_eq_true_eq];omega),BF,List.getElem?_eq_getElem hi,Option.bind_some,WE,Option.bind_some,LX,Option.bind_some]
 cases ho:IL (Tl s[i])with
 |none=>rfl
 |some v=>
  have hn4:n<4096:=Nat.lt_of_lt_of_le hn (Nat.le_trans (Nat.pow_le_pow_right (by decide) (show i≤3 by omega)) (by decide))
  have:=wD n v hn4 (Sj ho) (K:=fun x17=>(some (.inl (x17,IntKind.i64.wrap ((i:Int)+1))):Option ((UInt16×Int)⊕(UInt16⊕(UInt16×Int)))))
  refine this.trans ?_
  rw[show(i:Int)+1=((i+1:Nat):Int) by omega,Bu (by omega)]
theorem fX{s:AH}(h4:s.length≤4): ∀k i n,s.length=i+k→n<16^i→iter (stepG s) (UInt16.ofNat n,(i:Int))=some (match V0 n (s.drop i)with|some m=> .inl (UInt16.ofNat m)|none=> .inr (0,5)):=by
 intro k
 induction k with
 |zero=>
  intro i n hk hn
  rw[Bs (b:= .inl (UInt16.ofNat n)) (by unfold stepG;dsimp only;rw[if_neg (by rw[decide_eq_true_eq];omega)]),List.drop_of_length_le (by omega)]
  rfl
 |succ k ih=>
  intro i n hk hn
  have hi:i<s.length:=by omega
  have hs:=pK h4 hi hn
  rw[YB hi]
  cases e:IL (Tl s[i])with
  |none=>
   rw[e]at hs
   rw[Bs hs];rfl
  |some v=>
   rw[e]at hs
   rw[BZ hs,ih (i+1) _ (by omega) (by have:=Sj e;rw[Nat.pow_succ];omega)]
   rfl
theorem YM(s:AH)(hl:s.length<1073741824):Ej s=some (match VY s with|some n=>(UInt16.ofNat n,0)|none=>(0,5)):=by
 unfold Ej VY
 by_cases h1:s.length<1
 ·rw[show decide ((s.length:Int)<1)=true from decide_eq_true (by omega),if_neg (by omega)];rfl
 ·rw[show decide ((s.length:Int)<1)=false from decide_eq_false (by omega)]
  by_cases h4:4<s.length
  ·rw[show decide ((4:Int)<(s.length:Int))=true from decide_eq_true (by omega),if_neg (by omega)];rfl
  ·rw[show decide ((4:Int)<(s.length:Int))=false from decide_eq_false (by omega),if_pos (by omega)]
   have h0:=fX (s:=s) (by omega) s.length 0 0 (by omega) (by decide)
   refine(congrArg (fun x:Option (UInt16⊕(UInt16×Int))=>x.bind (Sum.elim (fun p8=>some (p8,(0:Int))) some)) h0).trans ?_
   rw[List.drop_zero]
   cases V0 0 s<;>rfl
def ar4(l:List UInt8):Ar UInt8 4:=if h:l.length=4 then⟨l,h⟩else⟨[0,0,0,0],rfl⟩
theorem PY(s:AH):(Du s).1.length=4:=by
 unfold Du
 split
 ·split
  ·simp;assumption
  ·rfl
 ·rfl
theorem DX{c:UInt8}: ∀{l:AH} {x:AH},x∈AL c l→x.length≤l.length
 |[],x,h=>by simp only[AL,List.mem_singleton]at h;subst h;simp
 |y::l,x,h=>by
  simp only[AL]at h
  by_cases hy:y=c
  ·rw[if_pos hy]at h
   rcases List.mem_cons.1 h with rfl|h
   ·simp
   ·have:=DX h;simp;omega
  ·rw[if_neg hy]at h
   cases e:AL c l with
   |nil=>exact absurd e (CD l)
   |cons a t=>
    rw[e]at h
    rcases List.mem_cons.1 h with rfl|h
    ·have:=DX (c:=c) (l:=l) (x:=a) (by rw[e];simp);simp;omega
    ·have:=DX (c:=c) (l:=l) (x:=x) (by rw[e];exact List.mem_cons_of_mem _ h);simp;omega
theorem Qh(s:AH):(Xe s 255).2=(Dn s 255).2:=rfl
theorem eD(s:AH)(h:(Dn s 255).2=0):HF ((Xe s 255).1.toNat:Int)=UInt8.ofNat (Dn s 255).1:=by
 have hb:(Dn s 255).1≤255:=by
  unfold Dn at h ⊢
  split
  ·simp
  ·split
   ·simp
   ·simp;omega
 unfold Xe
 show HF ((UInt64.ofNat (Dn s 255).1).toNat:Int)=_
 rw[UInt64.toNat_ofNat',show(Dn s 255).1%2^64=(Dn s 255).1 by omega]
 apply UInt8.toNat_inj.1
 rw[show HF (((Dn s 255).1:Nat):Int)=UInt8.ofNat (((Dn s 255).1:Int)%256).toNat from rfl]
 congr 2
 omega
theorem SC: ∀(l:List AH) (x:AH),Mk l=0→Mk (l++[x])=(Dn x 255).2
 |[],x,_=>by
  show(if(Dn x 255).2=0 then Mk []else(Dn x 255).2)=_
  split
  ·rename_i h;rw[h];rfl
  ·rfl
 |y::l,x,h=>by
  rw[List.cons_append,Mk]
  rw[Mk]at h
  split at h
  ·rename_i hy
   rw[if_pos hy,SC l x h]
  ·rename_i hy
   exact absurd h hy
theorem iQ: ∀(l:List AH) (r:List AH),Mk l≠0→Mk (l++r)=Mk l
 |[],r,h=>absurd rfl h
 |y::l,r,h=>by
  rw[List.cons_append,Mk,Mk]
  rw[Mk]at h
  split
  ·rename_i hy
   rw[if_pos hy]at h
   exact iQ l r h
  ·rfl
theorem YO(P:List AH)(hP:P.length=4){F:Int×Ar UInt8 4→Option ((Int×Ar UInt8 4)⊕(Ar UInt8 4⊕(Ar UInt8 4×Int)))}
  (h1: ∀(i:Nat) (A:Ar UInt8 4) (x:AH),i<4→P[i]? =some x→F ((i:Int),A)=if(Dn x 255).2=0 then some (.inl (((i+1:Nat):Int),A.set i (UInt8.ofNat (Dn x 255).1)))else some (.inr (.inr (⟨[0,0,0,0],rfl⟩,(Dn x 255).2))))
  (h2: ∀A,F (((4:Nat):Int),A)=some (.inr (.inl A))):
  (iter F (0,(T.arr 4 T.u8).z)).bind (Sum.elim (fun p=>some (p,(0:Int))) some)=some (if Mk P=0 then(ar4 (P.map fun x=>UInt8.ofNat (Dn x 255).1),0)else(⟨[0,0,0,0],rfl⟩,Mk P)):=by
 have key: ∀n i (A:Ar UInt8 4),i+n=4→Mk (P.take i)=0→A.l.take i=(P.take i).map (fun x=>UInt8.ofNat (Dn x 255).1)→iter F ((i:Int),A)=some (if Mk P=0 then .inl (ar4 (P.map fun x=>UInt8.ofNat (Dn x 255).1))else .inr (⟨[0,0,0,0],rfl⟩,Mk P)):=by
  intro n
  induction n with
  |zero=>
   intro i A hi hb hA
   obtain rfl:i=4:=by omega
   rw[Bs (h2 A)]
   have e1:P.take 4=P:=List.take_of_length_le (by omega)
   have e2:A.l.take 4=A.l:=List.take_of_length_le (by rw[A.len];omega)
   rw[e1]at hb hA
   rw[e2]at hA
   rw[if_pos hb]
   congr 1
   unfold ar4
   rw[dif_pos (by simp[hP])]
   obtain⟨l,hl⟩:=A
   simp only at hA
   subst hA
   rfl
  |succ n ih=>
   intro i A hi hb hA
   have hlt:i<P.length:=by omega
   have hx:=h1 i A P[i] (by omega) (List.getElem?_eq_getElem hlt)
   have hP2:P=P.take i++[P[i]]++P.drop (i+1):=by
    rw[List.append_assoc,List.singleton_append,←List.drop_eq_getElem_cons hlt,List.take_append_drop]
   by_cases hd:(Dn P[i] 255).2=0
   ·rw[if_pos hd]at hx
    rw[BZ hx]
    refine ih (i+1) _ (by omega) ?_ ?_
    ·rw[List.take_succ_eq_append_getElem hlt,SC _ _ hb,hd]
    ·rw[List.take_succ_eq_append_getElem hlt,List.map_append,←hA]
     show(A.l.set i _).take (i+1)=_
     rw[RM (by rw[A.len];omega) rfl]
     rfl
   ·rw[if_neg hd]at hx
    rw[Bs hx]
    have hq:Mk P=(Dn P[i] 255).2:=by
     conv=>lhs;rw[hP2]
     rw[iQ _ _ (by rw[SC _ _ hb];exact hd),SC _ _ hb]
    rw[hq,if_neg hd]
 have h0:=key 4 0 (T.arr 4 T.u8).z rfl rfl rfl
 refine(congrArg (fun x:Option (Ar UInt8 4⊕(Ar UInt8 4×Int))=>x.bind _) h0).trans ?_
 split<;>rfl
def TS(s:AH):Ar UInt8 4×Int:=(ar4 (Du s).1,(Du s).2)
theorem Wc(s:AH)(hl:s.length<1073741824):JX s=some (TS s):=by
 unfold JX TS Du
 rw[YT s 46 hl,Option.bind_some]
 by_cases h4:(AL 46 s).length=4
 ·rw[if_pos h4]
  refine Eq.trans (if_neg (by simp[h4])) ?_
  refine(YO (AL 46 s) h4 ?_ ?_).trans ?_
  ·intro i A x hi hx
   have hxl:x.length<1073741824:=by
    have:=DX (List.mem_of_getElem? hx);omega
   refine Eq.trans (if_pos (by simp[h4];omega)) ?_
   dsimp only
   rw[BF,EI,hx,Option.bind_some,Ol x 255 hxl,Option.bind_some]
   by_cases hd:(Dn x 255).2=0
   ·rw[if_neg (by rw[Qh,hd];decide),if_pos hd,E4 hi,Option.bind_some,if_pos hi,Option.bind_some,eD x hd,show(i:Int)+1=((i+1:Nat):Int) by omega,Bu (by omega)]
   ·rw[if_pos (by rw[Qh];simp[hd]),if_neg hd]
    rfl
  ·intro A
   exact if_neg (by simp[h4])
  ·by_cases hb:Mk (AL 46 s)=0
   ·rw[if_pos hb,if_pos hb]
   ·rw[if_neg hb,if_neg hb];rfl
 ·rw[if_neg h4]
  refine Eq.trans (if_pos (by simp only[Bool.not_eq_true',decide_eq_false_iff_not];intro e;exact h4 (Int.ofNat.inj e))) rfl
end Go.Proofs.YtobejhpigbllpaaGreatDoor.Am
namespace Go.Proofs.YtobejhpigbllpaaGreatDoor.Am
def YD(gp:Option Nat)(l:List Nat)(p:AH):Option (List Nat×Option Nat):=
 match VY p with
 |some x=>if l.length=8 then none else some (l++[x],gp)
 |none=>if(Du p).2=0 then(if 7≤l.length then none else some (l++[256*((Du p).1.getD 0 0).toNat+((Du p).1.getD 1 0).toNat,256*((Du p).1.getD 2 0).toNat+((Du p).1.getD 3 0).toNat],gp))else none
def cU:Option Nat→List Nat→List AH→Option (List Nat×Option Nat)
 |_,_,[]=>none
 |gp,l,[p]=>YD gp l p
 |gp,l,p::q::r=>match VY p with
  |none=>none
  |some x=>if l.length=8 then none else
   if q=[]∧r≠[]then(if gp.isSome=true then none else if r=[[]]then some (l++[x],some (l.length+1))else cU (some (l.length+1)) (l++[x]) r)
   else cU gp (l++[x]) (q::r)
theorem zQ:VY []=none:=rfl
theorem QX{gp:Option Nat}{l:List Nat}(hl:l.length≤8)(p:AH):YD gp l p=(DI true [p]).bind fun m=>if l.length+m.length≤8 then some (l++m,gp)else none:=by
 unfold YD DI
 cases VY p with
 |some x=>
  simp only[DI,Option.map_some,Option.bind_some,List.length_cons,List.length_nil]
  by_cases h:l.length=8
  ·rw[if_pos h,if_neg (by omega)]
  ·rw[if_neg h,if_pos (by omega)]
 |none=>
  by_cases hq:(Du p).2=0
  ·simp only[hq,true_and,if_true,Option.bind_some,List.length_cons,List.length_nil]
   by_cases h:7≤l.length
   ·rw[if_pos h,if_neg (by omega)]
   ·rw[if_neg h,if_pos (by omega)]
  ·simp[hq]
theorem JZ(last:Bool)(p q:AH)(r:List AH):DI last (p::q::r)=(VY p).bind fun n=>(DI last (q::r)).map fun l=>n::l:=by
 rw[DI]
 cases VY p with
 |none=>simp
 |some n=>rfl
theorem ZU(g:Nat): ∀(P:List AH) (l:List Nat),P≠[]→l.length≤8→cU (some g) l P=(DI true P).bind fun m=>if l.length+m.length≤8 then some (l++m,some g)else none
 |[],l,h,_=>absurd rfl h
 |[p],l,_,hl=>by rw[cU,QX hl]
 |p::q::r,l,_,hl=>by
  rw[cU,JZ]
  cases VY p with
  |none=>rfl
  |some x=>
   dsimp only
   rw[Option.bind_some]
   by_cases h8:l.length=8
   ·rw[if_pos h8]
    cases DI true (q::r)with
    |none=>rfl
    |some m=>
     simp only[Option.map_some,Option.bind_some,List.length_cons]
     rw[if_neg (by omega)]
   ·rw[if_neg h8]
    by_cases hq:q=[]∧r≠[]
    ·rw[if_pos hq,if_pos (by rfl)]
     obtain⟨rfl,hr⟩:=hq
     obtain⟨a,t,rfl⟩:=List.exists_cons_of_ne_nil hr
     rw[JZ,zQ];rfl
    ·rw[if_neg hq,ZU g (q::r) _ (by simp) (by simp;omega)]
     cases DI true (q::r)with
     |none=>rfl
     |some m=>
      simp only[Option.map_some,Option.bind_some,List.length_cons,List.length_append,List.length_nil]
      by_cases h:l.length+(0+1)+m.length≤8
      ·rw[if_pos h,if_pos (by omega)];simp
      ·rw[if_neg h,if_neg (by omega)]
def Xw(l m:List Nat)(b:AH):Option (List Nat×Option Nat):=
 if l.length+m.length≤8 then(if b=[]then some (l++m,some (l.length+m.length))else(DI true (AL 58 b)).bind fun m'=>if l.length+m.length+m'.length≤8 then some (l++m++m',some (l.length+m.length))else none)else none
theorem wH{p:AH}(hp:(58:UInt8)∉p): ∀t:AH,Ip (p++58::t)=(Ip (58::t)).map fun q=>(p++q.1,q.2):=by
 induction p with
 |nil=>
  intro t
  rw[List.nil_append]
  cases Ip (58::t)<;>rfl
 |cons a p ih=>
  intro t
  have ha:a≠58:=fun e=>hp (by simp[e])
  have hp':(58:UInt8)∉p:=fun h=>hp (List.mem_cons_of_mem _ h)
  have ih':=ih hp' t
  obtain⟨b,s,e⟩: ∃b s,p++58::t=b::s:=by
   cases p with
   |nil=>exact⟨_,_,rfl⟩
   |cons b s=>exact⟨_,_,rfl⟩
  rw[List.cons_append,e,Ip,if_neg (fun h=>ha h.1),←e,ih']
  cases Ip (58::t)<;>rfl
theorem oJ(t:AH):Ip (58::58::t)=some ([],t):=by rw[Ip,if_pos ⟨rfl,rfl⟩]
theorem wG{c:UInt8}(hc:c≠58)(t:AH):Ip (58::c::t)=(Ip (c::t)).map fun q=>(58::q.1,q.2):=by rw[Ip,if_neg (fun h=>hc h.2)]
theorem rQ{s:AH}(h:(58:UInt8)∉s):Ip s=none:=(Zh h).1
theorem Mo{c:UInt8}{x:UInt8}{t:AH}(h:x≠c): ∃a r,AL c (x::t)=(x::a)::r:=by
 rw[AL,if_neg h]
 cases e:AL c t with
 |nil=>exact absurd e (CD t)
 |cons a r=>exact⟨a,r,rfl⟩
theorem tU: ∀(n:Nat) (s:AH) (l:List Nat),s.length≤n→l.length≤8→cU none l (AL 58 s)=(match Ip s with
  |none=>(DI true (AL 58 s)).bind fun m=>if l.length+m.length≤8 then some (l++m,none)else none
  |some (a,b)=>(DI false (AL 58 a)).bind fun m=>Xw l m b):=by
 intro n
 induction n with
 |zero=>
  intro s l hs hl
  obtain rfl:s=[]:=List.length_eq_zero_iff.1 (by omega)
  show cU none l [[]]=(DI true [[]]).bind _
  rw[cU,QX hl]
 |succ n ih=>
  intro s l hs hl
  rcases Mz s 58 with ⟨hn,_⟩|⟨p,q,rfl,hn,_⟩
  ·have h58:(58:UInt8)∉s:=fun h=>hn 58 h rfl
   rw[HC hn,rQ h58,cU,QX hl]
  ·have hp:(58:UInt8)∉p:=fun h=>hn 58 h rfl
   have hq:q.length≤n:=by simp at hs;omega
   rw[GA hn,wH hp]
   match q,hq with
   |[],_=>
    have e:AL 58 ([]:AH)=[[]]:=rfl
    have eg:Ip [58]=none:=rfl
    rw[e,eg,JZ,cU]
    have e2:DI true [[]]=none:=rfl
    have e3: ∀l,cU none l [[]]=none:=fun l=>rfl
    rw[e2]
    cases VY p with
    |none=>rfl
    |some x=>
     dsimp only
     rw[if_neg (by simp: ¬(([]:AH)=[]∧([]:List AH)≠[])),e3]
     split<;>rfl
   |c::t,hq=>
    by_cases hc:c=58
    ·subst hc
     have e:AL 58 (58::t)=[]::AL 58 t:=by rw[AL,if_pos rfl]
     rw[e,oJ,cU]
     simp only[Option.map_some,List.append_nil,HC hn]
     cases h:VY p with
     |none=>simp[DI,h]
     |some x=>
      have e2:DI false [p]=some [x]:=by simp[DI,h]
      rw[e2]
      dsimp only
      rw[Option.bind_some]
      unfold Xw
      simp only[List.length_cons,List.length_nil]
      by_cases h8:l.length=8
      ·rw[if_pos h8,if_neg (by omega)]
      ·rw[if_neg h8,if_pos ⟨trivial,CD t⟩,if_neg (by simp),if_pos (show l.length+(0+1)≤8 by omega)]
       have et:(AL 58 t=[[]])↔t=[]:=by
        constructor
        ·intro h
         cases t with
         |nil=>rfl
         |cons y t=>
          by_cases hy:y=58
          ·rw[AL,if_pos hy]at h
           have:=(List.cons.inj h).2
           exact absurd this (CD t)
          ·obtain⟨a,r,e⟩:=Mo (t:=t) hy
           rw[e]at h
           have:=(List.cons.inj h).1
           cases this
        ·rintro rfl;rfl
       by_cases h0:t=[]
       ·rw[if_pos (et.2 h0),if_pos h0]
       ·rw[if_neg (fun h=>h0 (et.1 h)),if_neg h0,ZU _ _ _ (CD t) (by simp;omega)]
        simp
    ·have hcp:AL 58 (c::t)≠[]:=CD _
     obtain⟨a,r,e⟩:=Mo (t:=t) hc
     have ih':=ih (c::t) (l:=l++[(VY p).getD 0]) hq
     rw[wG hc]
     rw[e]at ih' ⊢
     rw[cU,JZ]
     cases h:VY p with
     |none=>
      cases Ip (c::t)with
      |none=>rfl
      |some q=>
       obtain⟨a',b'⟩:=q
       simp only[Option.map_some]
       rw[GA hn]
       obtain⟨u,v,e3⟩:=List.exists_cons_of_ne_nil (CD (c:=58) a')
       rw[e3,JZ,h];rfl
     |some x=>
      rw[h]at ih'
      simp only[Option.getD_some]at ih'
      dsimp only
      by_cases h8:l.length=8
      ·rw[if_pos h8]
       cases Ip (c::t)with
       |none=>
        simp only[Option.map_none,Option.bind_some]
        cases DI true ((c::a)::r)with
        |none=>rfl
        |some m=>simp only[Option.map_some,Option.bind_some,List.length_cons];rw[if_neg (by omega)]
       |some q=>
        obtain⟨a',b'⟩:=q
        simp only[Option.map_some]
        rw[GA hn]
        obtain⟨u,v,e3⟩:=List.exists_cons_of_ne_nil (CD (c:=58) a')
        rw[e3,JZ,h,Option.bind_some]
        cases DI false (u::v)with
        |none=>rfl
        |some m=>
         simp only[Option.map_some,Option.bind_some]
         unfold Xw
         rw[if_neg (by simp;omega)]
      ·rw[if_neg h8,if_neg (by simp),ih' (by simp;omega)]
       cases Ip (c::t)with
       |none=>
        simp only[Option.map_none,Option.bind_some]
        cases DI true ((c::a)::r)with
        |none=>rfl
        |some m=>
         simp only[Option.map_some,Option.bind_some,List.length_cons,List.length_append,List.length_nil,List.append_assoc,List.singleton_append]
         by_cases hh:l.length+(0+1)+m.length≤8
         ·rw[if_pos hh,if_pos (by omega)]
         ·rw[if_neg hh,if_neg (by omega)]
       |some q=>
        obtain⟨a',b'⟩:=q
        simp only[Option.map_some]
        rw[GA hn]
        obtain⟨u,v,e3⟩:=List.exists_cons_of_ne_nil (CD (c:=58) a')
        rw[e3,JZ,h,Option.bind_some]
        cases DI false (u::v)with
        |none=>rfl
        |some m=>
         simp only[Option.map_some,Option.bind_some]
         unfold Xw
         simp only[List.length_append,List.length_cons,List.length_nil,List.append_assoc,List.singleton_append]
         rw[show l.length+(0+1)+m.length=l.length+(m.length+1) by omega]
def gapI:Option Nat→Int
 |none=> -1
 |some g=>(g:Int)
def Vf(r:A5)(l:List Nat)(gp:Option Nat):Prop:=
 r.n_=(l.length:Int)∧l.length≤8∧r.g_.l.take l.length=l.map UInt16.ofNat∧r.gap_=gapI gp
noncomputable def putR(r:A5)(v:UInt16):Option (Bool×A5):=
 if(decide (r.n_=8))=true then
 some (false,r)
 else
 (C2 8 r.n_).bind fun x93=>
 (if x93<8 then some ({r with g_:=r.g_.set x93 v})else none).bind fun x94=>
 some (true,{x94 with n_:=IntKind.i64.wrap (x94.n_+1)})
theorem PZ{r:A5}{l:List Nat}{gp:Option Nat}{v:UInt16}(h:Vf r l gp)(h8:l.length=8):putR r v=some (false,r):=by
 unfold putR
 rw[if_pos (by rw[decide_eq_true_eq,h.1,h8];rfl)]
theorem Vl{r:A5}{l:List Nat}{gp:Option Nat}(h:Vf r l gp)(h8: ¬l.length=8)(x:Nat): ∃r',putR r (UInt16.ofNat x)=some (true,r')∧Vf r' (l++[x]) gp:=by
 obtain⟨h1,h2,h3,h4⟩:=h
 unfold putR
 rw[if_neg (by rw[decide_eq_true_eq,h1];omega),h1,E4 (by omega),Option.bind_some,if_pos (by omega),Option.bind_some]
 refine⟨_,rfl,?_,?_,?_,h4⟩
 ·show IntKind.i64.wrap ((l.length:Int)+1)=_
  rw[show(l.length:Int)+1=((l.length+1:Nat):Int) by omega,Bu (by omega),List.length_append];rfl
 ·simp;omega
 ·show(r.g_.l.set l.length _).take (l++[x]).length=_
  rw[List.length_append,show [x].length=1 from rfl,RM (by rw[r.g_.len];omega) rfl,h3,List.map_append];rfl
theorem or8h{x y:Nat}(hx:x<256)(hy:y<256):F2 .or .u16 ((256*x:Nat):Int) (y:Int)=((256*x+y:Nat):Int):=by
 show((BitVec.ofInt 16 ((256*x:Nat):Int)|||BitVec.ofInt 16 (y:Int)).toNat:Int)=_
 rw[BitVec.toNat_or]
 have e1:(BitVec.ofInt 16 ((256*x:Nat):Int)).toNat=256*x:=by rw[BitVec.toNat_ofInt];omega
 have e2:(BitVec.ofInt 16 (y:Int)).toNat=y:=by rw[BitVec.toNat_ofInt];omega
 rw[e1,e2,show 256*x=2^8*x from rfl,←Nat.two_pow_add_eq_or_of_lt hy]
theorem YU{γ:Type}{K:UInt16→Option γ}(x:UInt8){M:UInt16→Option UInt16}(y:UInt8)(hM: ∀z,M z=some (CV (F2 .or .u16 (z.toNat:Int) ((CV (y.toNat:Int)).toNat:Int)))):((if((8:UInt64).toNat:Int)<0 then none else some (CV (((CV (x.toNat:Int)).toNat:Int)*2^(min ((8:UInt64).toNat:Int).toNat 16)))).bind fun z=>(M z).bind K)=K (UInt16.ofNat (256*x.toNat+y.toNat)):=by
 have hx:=x.toNat_lt
 have hy:=y.toNat_lt
 have e8:(2:Int)^(min ((8:UInt64).toNat:Int).toNat 16)=256:=by decide
 rw[if_neg (by decide),Option.bind_some,hM,Option.bind_some,e8,Km (by omega),Km (by omega),show(x.toNat:Int)*256=((256*x.toNat:Nat):Int) by omega,Km (by omega),or8h (by omega) (by omega)]
 congr 1
 apply UInt16.toNat_inj.1
 rw[Km (by omega),UInt16.toNat_ofNat'];omega
noncomputable def sW(r:A5)(a:AH):Option (Bool×A5):=
 (Ej a).bind fun x15=>
 if(decide (x15.2=0))=true then
 (putR r x15.1).bind (fun(p19:(Bool×A5))=>some (p19.1,p19.2))
 else
 (JX a).bind fun x28=>
 if(decide (x28.2=0))=true then
 (C2 4 0).bind fun x34=>
 (x28.1.l[x34]?).bind fun x35=>
 (if((8:UInt64).toNat:Int)<0 then none else some (CV (((CV (x35.toNat:Int)).toNat:Int)*2^(min ((8:UInt64).toNat:Int).toNat 16)))).bind fun x37=>
 (C2 4 1).bind fun x38=>
 (x28.1.l[x38]?).bind fun x39=>
 let x41:=CV (F2 .or .u16 (x37.toNat:Int) ((CV (x39.toNat:Int)).toNat:Int))
 (putR r x41).bind (fun(p42:(Bool×A5))=>
 if p42.1=true then
 (C2 4 2).bind fun x51=>
 (x28.1.l[x51]?).bind fun x52=>
 (if((8:UInt64).toNat:Int)<0 then none else some (CV (((CV (x52.toNat:Int)).toNat:Int)*2^(min ((8:UInt64).toNat:Int).toNat 16)))).bind fun x54=>
 (C2 4 3).bind fun x55=>
 (x28.1.l[x55]?).bind fun x56=>
 let x58:=CV (F2 .or .u16 (x54.toNat:Int) ((CV (x56.toNat:Int)).toNat:Int))
 (putR p42.2 x58).bind (fun(p59:(Bool×A5))=>some (p59.1,p59.2))
 else
 some (false,p42.2))
 else
 some (false,r)
theorem MJ(s:AH)(i:Nat)(hi:i<4):(ar4 (Du s).1).l[i]? =some ((Du s).1.getD i 0):=by
 have h:=PY s
 have e:(ar4 (Du s).1).l=(Du s).1:=by unfold ar4;rw[dif_pos h]
 rw[e,List.getElem?_eq_getElem (by omega),List.getD_eq_getElem?_getD,List.getElem?_eq_getElem (by omega)];rfl
theorem YE{r:A5}{l:List Nat}{gp:Option Nat}(h:Vf r l gp)(p:AH)(hl:p.length<1073741824): ∃b r',sW r p=some (b,r')∧(b=true→ ∃l' gp',YD gp l p=some (l',gp')∧Vf r' l' gp')∧(b=false→YD gp l p=none):=by
 unfold sW YD
 rw[YM p hl,Option.bind_some]
 cases hg:VY p with
 |some x=>
  dsimp only
  rw[if_pos (by simp)]
  by_cases h8:l.length=8
  ·rw[PZ h h8,if_pos h8]
   exact⟨false,r,rfl,fun e=>(by cases e),fun _=>rfl⟩
  ·obtain⟨r',e,hr⟩:=Vl h h8 x
   rw[e,if_neg h8]
   exact⟨true,r',rfl,fun _=>⟨_,_,rfl,hr⟩,fun e=>(by cases e)⟩
 |none=>
  dsimp only
  rw[if_neg (by decide),Wc p hl,Option.bind_some]
  unfold TS
  dsimp only
  by_cases hq:(Du p).2=0
  ·rw[if_pos (decide_eq_true hq),if_pos hq]
   have i0:C2 4 0=some 0:=rfl
   have i1:C2 4 1=some 1:=rfl
   have i2:C2 4 2=some 2:=rfl
   have i3:C2 4 3=some 3:=rfl
   rw[i0,Option.bind_some,MJ p 0 (by omega),Option.bind_some]
   simp only[i1,i2,i3,Option.bind_some,MJ p 1 (by omega),MJ p 2 (by omega),MJ p 3 (by omega)]
   have s1:=YU (K:=fun x41=>(putR r x41).bind (fun(p42:(Bool×A5))=>if p42.1=true then(if((8:UInt64).toNat:Int)<0 then none else some (CV (((CV (((Du p).1.getD 2 0).toNat:Int)).toNat:Int)*2^(min ((8:UInt64).toNat:Int).toNat 16)))).bind fun x54=>(putR p42.2 (CV (F2 .or .u16 (x54.toNat:Int) ((CV (((Du p).1.getD 3 0).toNat:Int)).toNat:Int)))).bind (fun(p59:(Bool×A5))=>some (p59.1,p59.2))else some (false,p42.2))) ((Du p).1.getD 0 0) ((Du p).1.getD 1 0) (fun z=>rfl)
   have s2: ∀r2:A5,_:=fun r2=>YU (K:=fun x=>(putR r2 x).bind (fun(p59:(Bool×A5))=>some (p59.1,p59.2))) ((Du p).1.getD 2 0) ((Du p).1.getD 3 0) (fun z=>rfl)
   by_cases h8:l.length=8
   ·refine⟨false,r,s1.trans ?_,fun e=>(by cases e),fun _=>if_pos (by omega)⟩
    rw[PZ h h8];rfl
   ·obtain⟨r1,e1,hr1⟩:=Vl h h8 (256*((Du p).1.getD 0 0).toNat+((Du p).1.getD 1 0).toNat)
    by_cases h7:l.length=7
    ·have hp2: ∀v,putR r1 v=some (false,r1):=fun v=>PZ hr1 (by simp;omega)
     refine⟨false,r1,s1.trans ?_,fun e=>(by cases e),fun _=>if_pos (by omega)⟩
     rw[e1]
     refine(s2 r1).trans ?_
     rw[hp2];rfl
    ·obtain⟨r2,e2,hr2⟩:=Vl hr1 (by simp;have:=h.2.1;omega) (256*((Du p).1.getD 2 0).toNat+((Du p).1.getD 3 0).toNat)
     refine⟨true,r2,s1.trans ?_,fun _=>⟨_,_,if_neg (by have:=h.2.1;omega),by rw[List.append_assoc]at hr2;exact hr2⟩,fun e=>(by cases e)⟩
     rw[e1]
     refine(s2 r1).trans ?_
     rw[e2];rfl
  ·rw[if_neg (by rw[decide_eq_true_eq];exact hq),if_neg hq]
   exact⟨false,r,rfl,fun e=>(by cases e),fun _=>rfl⟩
theorem Wf(s p:AH):CU s p=some (decide (s.take p.length=p)):=by
 unfold CU Ca
 by_cases h:p.length≤s.length
 ·rw[show decide ((p.length:Int)≤(s.length:Int))=true from decide_eq_true (by omega),PP h]
  rfl
 ·rw[show decide ((p.length:Int)≤(s.length:Int))=false from decide_eq_false (by omega),decide_eq_false (p:=s.take p.length=p) fun e=>by
   have:=congrArg List.length e
   rw[List.length_take]at this
   omega]
  rfl
theorem kF(s:AH):CU s [58]=some (decide (s.head?=some 58)):=by
 rw[Wf]
 cases s with
 |nil=>rfl
 |cons c s=>
  show some (decide ([c]=[58]))=_
  by_cases h:c=58
  ·subst h;rfl
  ·rw[decide_eq_false (p:=[c]=[58]) fun e=>h (List.cons.inj e).1,decide_eq_false (p:=(c::s).head?=some 58) fun e=>h (Option.some.inj e)]
noncomputable def TP(s7:AH×A5):Option ((AH×A5)⊕(Empty⊕(Bool×A5))):=
 (F6 s7.1 (58:UInt8)).bind fun x9=>
 if(!x9.2.2)=true then
 (sW s7.2 x9.1).bind (fun(p14:(Bool×A5))=>
 (some (p14.1,p14.2)).map fun r=> .inr (.inr r))
 else
 (Ej x9.1).bind fun x85=>
 if(!decide (x85.2=0))=true then
 (some (false,s7.2)).map fun r=> .inr (.inr r)
 else
 (putR s7.2 x85.1).bind (fun(p89:(Bool×A5))=>
 if(!p89.1)=true then
 (some (false,p89.2)).map fun r=> .inr (.inr r)
 else
 (CU x9.2.1 [58]).bind fun x99=>
 if(!x99)=true then
 some (.inl (x9.2.1,p89.2))
 else
 if(decide (0≤p89.2.gap_))=true then
 (some (false,p89.2)).map fun r=> .inr (.inr r)
 else
 (H8 x9.2.1 (some 1) none).bind fun x105=>
 if(decide (x105=[]))=true then
 (some (true,{p89.2 with gap_:=p89.2.n_})).map fun r=> .inr (.inr r)
 else
 some (.inl (x105,{p89.2 with gap_:=p89.2.n_})))
theorem QC(t:AH):(AL 58 t=[[]])↔t=[]:=by
 constructor
 ·intro h
  cases t with
  |nil=>rfl
  |cons y t=>
   by_cases hy:y=58
   ·rw[AL,if_pos hy]at h
    exact absurd (List.cons.inj h).2 (CD t)
   ·obtain⟨a,r,e⟩:=Mo (t:=t) hy
    rw[e]at h
    have:=(List.cons.inj h).1
    cases this
 ·rintro rfl;rfl
theorem Xh: ∀(n:Nat) (s:AH) (r:A5) (l:List Nat) (gp:Option Nat),s.length≤n→n<1073741824→Vf r l gp→
  ∃b r',iter TP (s,r)=some (.inr (b,r'))∧(b=true→ ∃l' gp',cU gp l (AL 58 s)=some (l',gp')∧Vf r' l' gp')∧(b=false→cU gp l (AL 58 s)=none):=by
 intro n
 induction n with
 |zero=>
  intro s r l gp hs hn h
  obtain rfl:s=[]:=List.length_eq_zero_iff.1 (by omega)
  obtain⟨b,r',e,h1,h2⟩:=YE h [] (by decide)
  refine⟨b,r',Bs ?_,h1,h2⟩
  unfold TP
  have hc:F6 ([]:AH) 58=some ([],[],false):=by
   rcases Vr [] 58 (by decide)with ⟨_,e⟩|⟨p,q,e,_⟩
   ·exact e
   ·simp at e
  rw[hc,Option.bind_some]
  dsimp only
  rw[if_pos (by decide),e];rfl
 |succ n ih=>
  intro s r l gp hs hn h
  rcases Vr s 58 (by omega)with ⟨hfree,hc⟩|⟨p,q,rfl,hfree,hc⟩
  ·obtain⟨b,r',e,h1,h2⟩:=YE h s (by omega)
   rw[HC hfree]
   refine⟨b,r',Bs ?_,h1,h2⟩
   unfold TP
   dsimp only
   rw[hc,Option.bind_some]
   dsimp only
   rw[if_pos (by decide),e];rfl
  ·have hpq:p.length+q.length+1≤n+1:=by simp at hs;omega
   rw[GA hfree]
   have h0:TP (p++58::q,r)=(Ej p).bind fun x85=>
     if(!decide (x85.2=0))=true then
     (some (false,r)).map fun r=> .inr (.inr r)
     else
     (putR r x85.1).bind (fun(p89:(Bool×A5))=>
     if(!p89.1)=true then
     (some (false,p89.2)).map fun r=> .inr (.inr r)
     else
     (CU q [58]).bind fun x99=>
     if(!x99)=true then
     some (.inl (q,p89.2))
     else
     if(decide (0≤p89.2.gap_))=true then
     (some (false,p89.2)).map fun r=> .inr (.inr r)
     else
     (H8 q (some 1) none).bind fun x105=>
     if(decide (x105=[]))=true then
     (some (true,{p89.2 with gap_:=p89.2.n_})).map fun r=> .inr (.inr r)
     else
     some (.inl (x105,{p89.2 with gap_:=p89.2.n_}))):=by
    unfold TP
    dsimp only
    rw[hc,Option.bind_some]
    rfl
   rw[YM p (by omega),Option.bind_some]at h0
   have hsplit: ∃u v,AL 58 q=u::v:=List.exists_cons_of_ne_nil (CD q)
   obtain⟨u,v,euv⟩:=hsplit
   rw[euv,cU]
   cases hg:VY p with
   |none=>
    rw[hg]at h0
    exact⟨false,r,Bs h0,fun e=>(by cases e),fun _=>rfl⟩
   |some x=>
    rw[hg]at h0
    dsimp only at h0 ⊢
    rw[if_neg (by simp)]at h0
    by_cases h8:l.length=8
    ·rw[PZ h h8]at h0
     rw[if_pos h8]
     exact⟨false,r,Bs h0,fun e=>(by cases e),fun _=>rfl⟩
    ·obtain⟨r1,e1,hr1⟩:=Vl h h8 x
     rw[e1,Option.bind_some,kF]at h0
     rw[if_neg h8]
     simp only[Bool.not_true,Bool.false_eq_true,if_false,Option.bind_some]at h0
     by_cases hq:q.head?=some 58
     ·obtain⟨t,rfl⟩: ∃t,q=58::t:=by
       cases q with
       |nil=>cases hq
       |cons c t=>exact⟨t,by rw[Option.some.inj hq]⟩
      have ht:t.length≤n:=by simp at hpq;omega
      rw[AL,if_pos rfl]at euv
      obtain⟨rfl,rfl⟩:=List.cons.inj euv
      rw[decide_eq_true hq]at h0
      simp only[Bool.not_true,Bool.false_eq_true,if_false]at h0
      rw[if_pos ⟨rfl,CD t⟩]
      cases gp with
      |some g=>
       have hgap:r1.gap_=(g:Int):=hr1.2.2.2
       rw[if_pos (by rw[hgap,decide_eq_true_eq];omega)]at h0
       exact⟨false,r1,Bs h0,fun e=>(by cases e),fun _=>if_pos rfl⟩
      |none=>
       have hgap:r1.gap_= -1:=hr1.2.2.2
       rw[if_neg (by rw[hgap];decide),show((1:Int))=((1:Nat):Int)from rfl,Hc (by simp),Option.bind_some]at h0
       have hd:(58::t).drop 1=t:=rfl
       rw[hd]at h0
       rw[if_neg (by simp)]
       have hr2:Vf {r1 with gap_:=r1.n_} (l++[x]) (some (l.length+1)):=by
        refine⟨hr1.1,hr1.2.1,hr1.2.2.1,?_⟩
        show r1.n_=((l.length+1:Nat):Int)
        rw[hr1.1];simp
       by_cases h0':t=[]
       ·rw[if_pos (decide_eq_true h0')]at h0
        rw[if_pos ((QC t).2 h0')]
        exact⟨true,_,Bs h0,fun _=>⟨_,_,rfl,hr2⟩,fun e=>(by cases e)⟩
       ·rw[if_neg (by rw[decide_eq_true_eq];exact h0')]at h0
        rw[if_neg (fun e=>h0' ((QC t).1 e)),BZ h0]
        exact ih t _ _ _ ht (by omega) hr2
     ·rw[decide_eq_false hq]at h0
      simp only[Bool.not_false,if_true]at h0
      have hne: ¬(u=[]∧v≠[]):=by
       rintro⟨rfl,hv⟩
       cases q with
       |nil=>exact hv (List.cons.inj euv).2.symm
       |cons c t=>
        have hc58:c≠58:=fun e=>hq (by rw[e];rfl)
        obtain⟨a,r',e⟩:=Mo (t:=t) hc58
        rw[e]at euv
        have:=(List.cons.inj euv).1
        cases this
      rw[if_neg hne,BZ h0,←euv]
      exact ih q _ _ _ (by omega) (by omega) hr1
end Go.Proofs.YtobejhpigbllpaaGreatDoor.Am
namespace Go.Proofs.YtobejhpigbllpaaGreatDoor.Am
theorem qS{σ β:Type}(n:Nat)(S:Nat→σ){F:σ→Option (σ⊕β)}{r:β}{s:σ}(h0:s=S 0)(h1: ∀i,i<n→F (S i)=some (.inl (S (i+1))))(h2:F (S n)=some (.inr r)):iter F s=some r:=by
 subst h0
 have key: ∀k,k≤n→iter F (S (n-k))=some r:=by
  intro k
  induction k with
  |zero=>intro _;exact Bs h2
  |succ k ih=>
   intro hk
   rw[BZ (h1 (n-(k+1)) (by omega)),show n-(k+1)+1=n-k by omega]
   exact ih (by omega)
 have:=key n (Nat.le_refl _)
 rwa [Nat.sub_self]at this
def N7(s:AH):Option (List Nat×Option Nat):=
 if s.take 2=[58,58]then(if s.drop 2=[]then some ([],some 0)else cU (some 0) [] (AL 58 (s.drop 2)))else cU none [] (AL 58 s)
def iH(l:List Nat):Option Nat→Option (List Nat)
 |none=>if l.length=8 then some l else none
 |some g=>if l.length=8 then none else some (l.take g++List.replicate (8-l.length) 0++l.drop g)
theorem lO{s b:AH}(h:Ip s=some ([],b)):s=58::58::b:=by
 match s,h with
 |[],h=>simp[Ip]at h
 |[_],h=>simp[Ip]at h
 |x::y::r,h=>
  rw[Ip]at h
  split at h
  ·rename_i hc
   obtain⟨rfl,rfl⟩:=hc
   cases h;rfl
  ·obtain⟨q,_,hq⟩:=Option.map_eq_some_iff.1 h
   cases hq
theorem sT{s:AH}(h:s.take 2=[58,58]):s=58::58::s.drop 2:=by
 have:=List.take_append_drop 2 s
 rw[h]at this
 exact this.symm
theorem iG(s:AH):(∀l gp,N7 s=some (l,gp)→l.length≤8∧ ∀g,gp=some g→g≤l.length)∧bX s=(match N7 s with|none=>none|some (l,gp)=>(iH l gp).map TF):=by
 unfold N7 bX
 by_cases h2:s.take 2=[58,58]
 ·rw[if_pos h2]
  have hs:=sT h2
  generalize s.drop 2=b at hs ⊢
  subst hs
  rw[oJ]
  by_cases hb:b=[]
  ·rw[if_pos hb]
   subst hb
   refine⟨fun l gp h=> ?_,rfl⟩
   cases h
   exact⟨by simp,fun g h=>(by cases h;simp)⟩
  ·rw[if_neg hb,ZU _ _ _ (CD b) (by simp)]
   have e1:Jm false []=some []:=rfl
   have e2:Jm true b=DI true (AL 58 b):=by unfold Jm;rw[if_neg hb]
   dsimp only
   rw[e1,e2]
   cases DI true (AL 58 b)with
   |none=>exact⟨fun l gp h=>(by cases h),rfl⟩
   |some m=>
    simp only[Option.bind_some,List.length_nil,Nat.zero_add,List.nil_append]
    by_cases h8:m.length≤8
    ·rw[if_pos h8]
     refine⟨fun l gp h=> ?_,?_⟩
     ·cases h
      exact⟨h8,fun g h=>(by cases h;omega)⟩
     ·unfold iH
      dsimp only
      by_cases h7:m.length=8
      ·rw[if_pos h7,if_neg (by omega)];rfl
      ·rw[if_neg h7,if_pos (by omega)]
       simp
    ·rw[if_neg h8,if_neg (by omega)]
     exact⟨fun l gp h=>(by cases h),rfl⟩
 ·rw[if_neg h2,tU s.length s [] (Nat.le_refl _) (by simp)]
  cases hg:Ip s with
  |none=>
   dsimp only
   have e1:Jm true s=if s=[]then some []else DI true (AL 58 s):=rfl
   rw[e1]
   by_cases h0:s=[]
   ·subst h0
    rw[if_pos rfl]
    have e2:DI true (AL 58 [])=none:=rfl
    rw[e2]
    exact⟨fun l gp h=>(by cases h),rfl⟩
   ·rw[if_neg h0]
    cases DI true (AL 58 s)with
    |none=>exact⟨fun l gp h=>(by cases h),rfl⟩
    |some m=>
     simp only[Option.bind_some,List.length_nil,Nat.zero_add,List.nil_append]
     by_cases h8:m.length≤8
     ·rw[if_pos h8]
      refine⟨fun l gp h=> ?_,?_⟩
      ·cases h
       exact⟨h8,fun g h=>(by cases h)⟩
      ·unfold iH
       dsimp only
       by_cases h7:m.length=8
       ·rw[if_pos h7,if_pos h7];rfl
       ·rw[if_neg h7,if_neg h7];rfl
     ·rw[if_neg h8,if_neg (by omega)]
      exact⟨fun l gp h=>(by cases h),rfl⟩
  |some q=>
   obtain⟨a,b⟩:=q
   dsimp only
   have ha:a≠[]:=by
    rintro rfl
    have:=lO hg
    rw[this]at h2
    exact h2 rfl
   have e1:Jm false a=DI false (AL 58 a):=by unfold Jm;rw[if_neg ha]
   have e2:Jm true b=if b=[]then some []else DI true (AL 58 b):=rfl
   rw[e1,e2]
   cases DI false (AL 58 a)with
   |none=>exact⟨fun l gp h=>(by cases h),rfl⟩
   |some m=>
    simp only[Option.bind_some]
    unfold Xw
    simp only[List.length_nil,Nat.zero_add,List.nil_append]
    by_cases h8:m.length≤8
    ·rw[if_pos h8]
     by_cases hb:b=[]
     ·rw[if_pos hb,if_pos hb]
      refine⟨fun l gp h=> ?_,?_⟩
      ·cases h
       exact⟨h8,fun g h=>by cases h;exact Nat.le_refl _⟩
      ·unfold iH
       simp only[Option.bind_some,List.length_nil,Nat.add_zero,List.take_length,List.drop_length]
       by_cases h7:m.length=8
       ·rw[if_pos h7,if_neg (by omega)];rfl
       ·rw[if_neg h7,if_pos (by omega)];simp
     ·rw[if_neg hb,if_neg hb]
      cases DI true (AL 58 b)with
      |none=>exact⟨fun l gp h=>(by cases h),rfl⟩
      |some m'=>
       simp only[Option.bind_some]
       by_cases h9:m.length+m'.length≤8
       ·rw[if_pos h9]
        refine⟨fun l gp h=> ?_,?_⟩
        ·cases h
         exact⟨by simpa using h9,fun g h=>(by cases h;simp)⟩
        ·unfold iH
         simp only[List.length_append,List.take_left',List.drop_left']
         by_cases h7:m.length+m'.length=8
         ·rw[if_pos h7,if_neg (by omega)];rfl
         ·rw[if_neg h7,if_pos (by omega),show 8-(m.length+m'.length)=8-m.length-m'.length by omega];rfl
       ·rw[if_neg h9,if_neg (by omega)]
        exact⟨fun l gp h=>(by cases h),rfl⟩
    ·rw[if_neg h8]
     refine⟨fun l gp h=>(by cases h),?_⟩
     by_cases hb:b=[]
     ·rw[if_pos hb]
      simp only[Option.bind_some,List.length_nil]
      rw[if_neg (by omega)]
     ·rw[if_neg hb]
      cases DI true (AL 58 b)with
      |none=>rfl
      |some m'=>
       simp only[Option.bind_some]
       rw[if_neg (by omega)]
noncomputable def tT(a0:AH):Option (Bool×A5):=
 (CU a0 [58,58]).bind fun x4=>
 (if x4=true then
 let x107:={(⟨(T.arr 8 T.u16).z,0,(-1)⟩:A5)with gap_:=0}
 (H8 a0 (some 2) none).bind fun x108=>
 if(decide (x108=[]))=true then
 (some (true,x107)).map fun r=> .inr r
 else
 some (.inl (x108,x107))
 else
 some (.inl (a0,(⟨(T.arr 8 T.u16).z,0,(-1)⟩:A5))):Option ((AH×A5)⊕_)).bind (Sum.elim (fun(p5:(AH×A5))=>
 (iter TP (p5.1,p5.2)).bind (Sum.elim (fun _:Empty=>none) some)) some)
theorem pX(s:AH)(hl:s.length<1073741824): ∃b r',tT s=some (b,r')∧(b=true→ ∃l' gp',N7 s=some (l',gp')∧Vf r' l' gp')∧(b=false→N7 s=none):=by
 unfold tT N7
 rw[Wf,Option.bind_some]
 have ok0:Vf (⟨(T.arr 8 T.u16).z,0,0⟩:A5) [] (some 0):=⟨rfl,by simp,rfl,rfl⟩
 have ok1:Vf (⟨(T.arr 8 T.u16).z,0,-1⟩:A5) [] none:=⟨rfl,by simp,rfl,rfl⟩
 have hlen:([58,58]:AH).length=2:=rfl
 rw[hlen]
 by_cases h2:s.take 2=[58,58]
 ·have h2l:2≤s.length:=by have:=congrArg List.length h2;rw[List.length_take]at this;simp at this;omega
  rw[if_pos (decide_eq_true h2),if_pos h2]
  dsimp only
  rw[show(2:Int)=((2:Nat):Int)from rfl,Hc h2l,Option.bind_some]
  by_cases hb:s.drop 2=[]
  ·rw[if_pos (decide_eq_true hb),if_pos hb]
   exact⟨true,_,rfl,fun _=>⟨_,_,rfl,ok0⟩,fun e=>(by cases e)⟩
  ·rw[if_neg (by rw[decide_eq_true_eq];exact hb),if_neg hb]
   obtain⟨b,r',e,q1,q2⟩:=Xh s.length (s.drop 2) _ [] (some 0) (by simp) hl ok0
   refine⟨b,r',?_,q1,q2⟩
   rw[Option.bind_some]
   show(iter TP (s.drop 2,_)).bind _=_
   rw[e];rfl
 ·rw[if_neg (by rw[decide_eq_true_eq];exact h2),if_neg h2]
  obtain⟨b,r',e,q1,q2⟩:=Xh s.length s _ [] none (Nat.le_refl _) hl ok1
  refine⟨b,r',?_,q1,q2⟩
  rw[Option.bind_some]
  show(iter TP (s,_)).bind _=_
  rw[e];rfl
noncomputable def ZF(r:A5):Option ((Ar UInt16 8)×Bool):=
 if(decide (r.gap_<0))=true then
 some (r.g_,decide (r.n_=8))
 else
 if(decide (r.n_=8))=true then
 some (r.g_,false)
 else
 ((PL 8 none (some r.gap_)).map fun p=>p.2).bind fun x126=>
 (if 0+x126≤8 then UX ((T.arr 8 T.u16).z) 0 8 ((r.g_.l.drop 0).take x126)else none).bind fun x127=>
 let x131:=IntKind.i64.wrap (IntKind.i64.wrap (8-r.n_)+r.gap_)
 (PL 8 (some x131) none).bind fun x132=>
 (PL 8 (some r.gap_) (some r.n_)).bind fun x135=>
 (if x135.1+(x135.2-x135.1)≤8 then UX x127 x132.1 (x132.2-x132.1) ((r.g_.l.drop x135.1).take (x135.2-x135.1))else none).bind fun x136=>
 some (x136,true)
abbrev zG:Ar UInt16 8:=(T.arr 8 T.u16).z
theorem z8:zG.l=List.replicate 8 0:=rfl
theorem dG{r:A5}{l:List Nat}{gp:Option Nat}(h:Vf r l gp)(hg: ∀g,gp=some g→g≤l.length): ∃G b,ZF r=some (G,b)∧(b=true→ ∃L,iH l gp=some L∧L.length=8∧G.l=L.map UInt16.ofNat)∧(b=false→iH l gp=none):=by
 obtain⟨h1,h2,h3,h4⟩:=h
 unfold ZF iH
 cases gp with
 |none=>
  have h4':r.gap_= -1:=h4
  rw[h4',if_pos (by decide),h1]
  dsimp only
  by_cases h8:l.length=8
  ·rw[if_pos h8]
   refine⟨_,_,rfl,fun _=>⟨l,rfl,h8,?_⟩,fun e=> ?_⟩
   ·rw[←h3,List.take_of_length_le (by rw[r.g_.len];omega)]
   ·rw[decide_eq_false_iff_not]at e;omega
  ·rw[if_neg h8]
   refine⟨_,_,rfl,fun e=> ?_,fun _=>rfl⟩
   rw[decide_eq_true_eq]at e;omega
 |some g=>
  have hgl:=hg g rfl
  have h4':r.gap_=(g:Int):=h4
  rw[h4',if_neg (by rw[decide_eq_true_eq];omega),h1]
  dsimp only
  by_cases h8:l.length=8
  ·rw[if_pos (by rw[h8];rfl),if_pos h8]
   exact⟨_,_,rfl,fun e=>(by cases e),fun _=>rfl⟩
  ·rw[if_neg (by rw[decide_eq_true_eq];omega),if_neg h8]
   have hgt:r.g_.l.take g=(l.take g).map UInt16.ofNat:=by
    rw[List.map_take,←h3,List.take_take,Nat.min_eq_left hgl]
   have hgd:(r.g_.l.drop g).take (l.length-g)=(l.drop g).map UInt16.ofNat:=by
    rw[List.map_drop,←h3,List.drop_take]
   have hc1:(if 0+g≤8 then UX zG 0 8 ((r.g_.l.drop 0).take g)else none)=some (⟨(l.take g).map UInt16.ofNat++List.replicate (8-g) 0,by simp;omega⟩:Ar UInt16 8):=by
    rw[if_pos (by omega),List.drop_zero,hgt]
    unfold UX
    rw[dif_pos (by omega)]
    congr 1
    apply Ar.ext
    show zG.l.take 0++_++zG.l.drop _=_
    rw[z8]
    simp only[List.take_zero,List.nil_append,List.length_map,List.length_take,List.drop_replicate]
    rw[List.take_of_length_le (by simp;omega)]
    congr 2
    omega
   have hc2: ∀k,k=8-l.length+g→(if g+(l.length-g)≤8 then UX (⟨(l.take g).map UInt16.ofNat++List.replicate (8-g) 0,by simp;omega⟩:Ar UInt16 8) k (8-k) ((r.g_.l.drop g).take (l.length-g))else none)=some (⟨(l.take g++List.replicate (8-l.length) 0++l.drop g).map UInt16.ofNat,by simp;omega⟩:Ar UInt16 8):=by
    rintro k rfl
    rw[if_pos (by omega),hgd]
    unfold UX
    rw[dif_pos (by omega)]
    congr 1
    apply Ar.ext
    have e1:((l.take g).map UInt16.ofNat).length=g:=by rw[List.length_map,List.length_take];omega
    have A1:((l.take g).map UInt16.ofNat++List.replicate (8-g) 0).take (8-l.length+g)=(l.take g).map UInt16.ofNat++List.replicate (8-l.length) 0:=by
     rw[List.take_append,e1,List.take_of_length_le (by rw[e1];omega),List.take_replicate,show min (8-l.length+g-g) (8-g)=8-l.length by omega]
    have A2: ∀m,8≤m→((l.take g).map UInt16.ofNat++List.replicate (8-g) 0).drop m=[]:=fun m hm=>List.drop_eq_nil_of_le (by simp;omega)
    have A3:((l.drop g).map UInt16.ofNat).take (8-(8-l.length+g))=(l.drop g).map UInt16.ofNat:=List.take_of_length_le (by simp;omega)
    show((l.take g).map UInt16.ofNat++List.replicate (8-g) 0).take (8-l.length+g)++((l.drop g).map UInt16.ofNat).take (8-(8-l.length+g))++((l.take g).map UInt16.ofNat++List.replicate (8-g) 0).drop _=(l.take g++List.replicate (8-l.length) 0++l.drop g).map UInt16.ofNat
    rw[A1,A3,A2 _ (by simp;omega),List.append_nil,List.map_append,List.map_append,List.map_replicate]
    rfl
   refine⟨(⟨(l.take g++List.replicate (8-l.length) 0++l.drop g).map UInt16.ofNat,by simp;omega⟩:Ar UInt16 8),true,?_,fun _=>⟨_,rfl,by simp;omega,rfl⟩,fun e=>(by cases e)⟩
   refine(congrArg (fun x:Option Nat=>x.bind _) (mN (n:=8) (m:=g) (by omega))).trans ?_
   refine(congrArg (fun x:Option (Ar UInt16 8)=>x.bind _) hc1).trans ?_
   have hw:IntKind.i64.wrap (IntKind.i64.wrap (8-(l.length:Int))+(g:Int))=((8-l.length+g:Nat):Int):=by
    rw[show(8:Int)-(l.length:Int)=((8-l.length:Nat):Int) by omega,Bu (by omega),show((8-l.length:Nat):Int)+(g:Int)=((8-l.length+g:Nat):Int) by omega,Bu (by omega)]
   refine(congrArg (fun x:Int=>(PL 8 (some x) none).bind _) hw).trans ?_
   refine(congrArg (fun x:Option (Nat×Nat)=>x.bind _) (iN (n:=8) (a:=8-l.length+g) (by omega))).trans ?_
   refine(congrArg (fun x:Option (Nat×Nat)=>x.bind _) (iO (n:=8) hgl (by omega))).trans ?_
   exact(congrArg (fun x:Option (Ar UInt16 8)=>x.bind _) (hc2 _ rfl)).trans rfl
end Go.Proofs.YtobejhpigbllpaaGreatDoor.Am
namespace Go.Proofs.YtobejhpigbllpaaGreatDoor.Am
def WN(L:List Nat):Nat→Ar UInt8 16
 |0=>(T.arr 16 T.u8).z
 |i+1=>((WN L i).set (2*i) (UInt8.ofNat (L.getD i 0/256))).set (2*i+1) (UInt8.ofNat (L.getD i 0%256))
theorem Uf{L:List Nat}(h:L.length=8):WN L 8=Ve (TF L):=by
 match L,h with
 |[a,b,c,d,e,f,g,k],_=>rfl
theorem AaC(n:Nat):HF ((CV (Int.fdiv ((UInt16.ofNat n).toNat:Int) 256)).toNat:Int)=UInt8.ofNat (n/256):=by
 have h:=(UInt16.ofNat n).toNat_lt
 have e:Int.fdiv ((UInt16.ofNat n).toNat:Int) 256=(((UInt16.ofNat n).toNat/256:Nat):Int):=by
  rw[Int.fdiv_eq_ediv_of_nonneg _ (by decide)];rfl
 rw[e,Km (by omega),UInt16.toNat_ofNat']
 apply UInt8.toNat_inj.1
 show(UInt8.ofNat _).toNat=_
 rw[UInt8.toNat_ofNat',UInt8.toNat_ofNat'];omega
theorem Aa5(n:Nat):HF ((UInt16.ofNat n).toNat:Int)=UInt8.ofNat (n%256):=by
 rw[UInt16.toNat_ofNat']
 apply UInt8.toNat_inj.1
 show(UInt8.ofNat _).toNat=_
 rw[UInt8.toNat_ofNat',UInt8.toNat_ofNat'];omega
noncomputable def nN(G:Ar UInt16 8)(s148:Int×(Ar UInt8 16)):Option ((Int×(Ar UInt8 16))⊕((Ar UInt8 16)⊕((Ar UInt8 16)×Int))):=
 if(decide (s148.1<8))=true then
 (DC G.l s148.1).bind fun x151=>
 let x154:=IntKind.i64.wrap (IntKind.i64.wrap (2*s148.1)+1)
 (if((8:UInt64).toNat:Int)<0 then none else some (CV (Int.fdiv (x151.toNat:Int) (2^(min ((8:UInt64).toNat:Int).toNat 16))))).bind fun x155=>
 (C2 16 (IntKind.i64.wrap (2*s148.1))).bind fun x158=>
 (if x158<16 then some (s148.2.set x158 (HF (x155.toNat:Int)))else none).bind fun x159=>
 (C2 16 x154).bind fun x160=>
 (if x160<16 then some (x159.set x160 (HF (x151.toNat:Int)))else none).bind fun x161=>
 some (.inl (IntKind.i64.wrap (s148.1+1),x161))
 else
 some (.inr (.inl s148.2))
theorem pL{G:Ar UInt16 8}{L:List Nat}(hL:L.length=8)(hG:G.l=L.map UInt16.ofNat){i:Nat}(hi:i<8):nN G ((i:Int),WN L i)=some (.inl (((i+1:Nat):Int),WN L (i+1))):=by
 have e8:(2:Int)^(min ((8:UInt64).toNat:Int).toNat 16)=256:=by decide
 have eg:L.getD i 0=L[i]'(by omega):=by rw[List.getD_eq_getElem?_getD,List.getElem?_eq_getElem (by omega)];rfl
 unfold nN
 dsimp only
 rw[if_pos (by rw[decide_eq_true_eq];omega),BF,hG,List.getElem?_map,List.getElem?_eq_getElem (by omega),Option.map_some,Option.bind_some,←eg]
 rw[if_neg (by decide),Option.bind_some,e8]
 rw[show(2:Int)*(i:Int)=((2*i:Nat):Int) by omega,Bu (by omega),E4 (by omega),Option.bind_some,if_pos (by omega),Option.bind_some,show((2*i:Nat):Int)+1=((2*i+1:Nat):Int) by omega,Bu (by omega),E4 (by omega),Option.bind_some,if_pos (by omega),Option.bind_some,AaC,Aa5,show(i:Int)+1=((i+1:Nat):Int) by omega,Bu (by omega)]
 rfl
theorem mL{G:Ar UInt16 8}{L:List Nat}(hL:L.length=8)(hG:G.l=L.map UInt16.ofNat):iter (nN G) (0,(T.arr 16 T.u8).z)=some (.inl (Ve (TF L))):=by
 rw[←Uf hL]
 refine qS 8 (fun i=>((i:Int),WN L i)) rfl (fun i hi=>pL hL hG hi) ?_
 rfl
theorem Xi(s:AH):M2 s=(tT s).bind fun p3=>if(!p3.1)=true then some ((T.arr 16 T.u8).z,5)else(ZF p3.2).bind fun p113=>if(!p113.2)=true then some ((T.arr 16 T.u8).z,5)else(iter (nN p113.1) (0,(T.arr 16 T.u8).z)).bind (Sum.elim (fun p=>some (p,(0:Int))) some):=rfl
theorem iF(s:AH)(hl:s.length<1073741824):M2 s=some (match bX s with|some l=>(Ve l,0)|none=>((T.arr 16 T.u8).z,5)):=by
 obtain⟨hc1,hc2⟩:=iG s
 obtain⟨b,r,e,q1,q2⟩:=pX s hl
 rw[Xi,e,Option.bind_some,hc2]
 cases b with
 |false=>rw[q2 rfl];rfl
 |true=>
  obtain⟨l,gp,h1,h2⟩:=q1 rfl
  obtain⟨G,b',e',w1,w2⟩:=dG h2 (hc1 l gp h1).2
  rw[h1]
  dsimp only
  rw[if_neg (by decide),e',Option.bind_some]
  cases b' with
  |false=>rw[w2 rfl];rfl
  |true=>
   obtain⟨L,z1,z2,z3⟩:=w1 rfl
   rw[z1]
   dsimp only
   rw[if_neg (by decide),mL z2 z3]
   rfl
theorem oY(l:AH)(c:UInt8)(hl:l.length<1099511627776):F6 l c=some (Y2 c l):=by
 rcases Vr l c hl with ⟨h,e⟩|⟨p,q,rfl,h,e⟩
 ·have:c∉l:=fun h'=>h c h' rfl
  rw[e];unfold Y2;rw[if_neg this]
 ·have:c∉p:=fun h'=>h c h' rfl
  rw[e,iD this]
theorem iC(l:AH)(c:UInt8):(Y2 c l).2.2=decide (c∈l):=by
 unfold Y2
 by_cases h:c∈l
 ·rw[if_pos h,decide_eq_true h]
 ·rw[if_neg h,decide_eq_false h]
theorem sJ(a:Ar UInt8 4):Kl a=some ⟨4,Ve (a.l++List.replicate 12 0)⟩:=by
 obtain⟨l,h⟩:=a
 match l,h with
 |[a,b,c,d],_=>rfl
theorem mW(s:AH)(hl:s.length<1073741824):O8 s=some (Lm s):=by
 unfold O8 Lm
 rw[oY s 58 (by omega),Option.bind_some,iC]
 by_cases h:(58:UInt8)∈s
 ·rw[if_pos (decide_eq_true h),if_pos h,iF s hl,Option.bind_some]
  cases bX s with
  |none=>rfl
  |some l=>rfl
 ·rw[if_neg (by rw[decide_eq_true_eq];exact h),if_neg h,Wc s hl,Option.bind_some]
  unfold TS
  dsimp only
  by_cases hq:(Du s).2=0
  ·rw[if_neg (by simp[hq]),if_pos hq,sJ]
   unfold ar4
   rw[dif_pos (PY s)]
   rfl
  ·rw[if_pos (by simp[hq]),if_neg hq]
   rfl
theorem YQ(a b:UInt8)(r:AH):List.isPrefixOf ([93,58]:AH) (a::b::r)=decide (a=93∧b=58):=by
 by_cases h:a=93∧b=58
 ·obtain⟨rfl,rfl⟩:=h;simp[List.isPrefixOf]
 ·rw[decide_eq_false h]
  simp only[List.isPrefixOf,Bool.and_true,Bool.and_eq_false_iff,beq_eq_false_iff_ne]
  rcases Classical.not_and_iff_not_or_not.1 h with h|h
  ·exact .inl fun e=>h e.symm
  ·exact .inr fun e=>h e.symm
theorem Rn: ∀s:AH,(Q8 s=none∧Lib.index s [93,58]= -1)∨ ∃p q,s=p++93::58::q∧Q8 s=some (p,q)∧Lib.index s [93,58]=(p.length:Int)
 |[]=> .inl ⟨rfl,rfl⟩
 |[a]=> .inl ⟨rfl,by simp[Lib.index,List.isPrefixOf]⟩
 |a::b::r=>by
  by_cases h:a=93∧b=58
  ·obtain⟨rfl,rfl⟩:=h
   exact .inr ⟨[],r,rfl,by rw[Q8,if_pos ⟨rfl,rfl⟩],by rw[Lib.index,if_pos (by rw[YQ];rfl)];rfl⟩
  ·have hp: ¬List.isPrefixOf ([93,58]:AH) (a::b::r)=true:=by rw[YQ,decide_eq_true_eq];exact h
   rcases Rn (b::r)with ⟨h1,h2⟩|⟨p,q,h1,h2,h3⟩
   ·exact .inl ⟨by rw[Q8,if_neg h,h1];rfl,by rw[Lib.index,if_neg hp,h2];rfl⟩
   ·refine .inr ⟨a::p,q,by rw[h1];rfl,by rw[Q8,if_neg h,h2];rfl,?_⟩
    rw[Lib.index,if_neg hp,h3,if_neg (by rw[beq_iff_eq];omega)]
    simp
theorem xE(s:AH)(hl:s.length<1073741824):Mn s [93,58]=some (match Q8 s with|none=>(s,[],false)|some (p,q)=>(p,q,true)):=by
 have hi:Ch s [93,58]=some (Lib.index s [93,58]):=by
  unfold Ch indexS
  rw[if_pos (by omega)]
 unfold Mn FV
 rw[hi,Option.bind_some]
 rcases Rn s with ⟨h1,h2⟩|⟨p,q,h1,h2,h3⟩
 ·rw[h1,h2];rfl
 ·rw[h2,h3,if_pos (by rw[decide_eq_true_eq];omega)]
  have hlen:s.length=p.length+(q.length+2):=by rw[h1];simp
  have e2:(([93,58]:AH).length:Int)=2:=rfl
  rw[PP (by omega),Option.bind_some,e2,show(p.length:Int)+2=((p.length+2:Nat):Int) by omega,Bu (by omega),Hc (by omega),Option.bind_some,h1]
  have a1:(p++93::58::q).take p.length=p:=List.take_left
  have a2:(p++93::58::q).drop (p.length+2)=q:=by
   rw[←List.drop_drop,List.drop_left];rfl
  rw[a1,a2]
  rfl
theorem xD(s:AH)(hl:s.length<1073741824):Hv s [91]=some (if s.head?=some 91 then(s.drop 1,true)else(s,false)):=by
 have hp:Ca s [91]=some (decide (s.head?=some 91)):=by
  cases s with
  |nil=>rfl
  |cons a r=>
   unfold Ca
   rw[show decide ((([91]:AH).length:Int)≤((a::r).length:Int))=true from decide_eq_true (by simp only[List.length_cons,List.length_nil];omega),show(([91]:AH).length:Int)=((1:Nat):Int)from rfl,PP (by simp)]
   show some (decide ([a]=[91]))=_
   congr 1
   simp
 unfold Hv Ev
 rw[hp,Option.bind_some]
 by_cases h:s.head?=some 91
 ·have hn:1≤s.length:=by cases s with
   |nil=>simp at h
   |cons a r=>simp
  rw[if_neg (by rw[decide_eq_true h];decide),if_pos h,show(([91]:AH).length:Int)=((1:Nat):Int)from rfl,Hc hn]
  rfl
 ·rw[if_pos (by rw[decide_eq_false h];decide),if_neg h]
  rfl
theorem iE{s p q:AH}(h:Q8 s=some (p,q)):p.length+q.length≤s.length:=by
 rcases Rn s with ⟨h1,_⟩|⟨p',q',h1,h2,_⟩
 ·rw[h1]at h;cases h
 ·rw[h2]at h;cases h
  have:=congrArg List.length h1
  simp at this;omega
theorem lK(s:AH)(hl:s.length<1073741824): ∃a b c,I4 s=some (a,b,c)∧WG s=(if c=true then some (a,b)else none)∧a.length≤s.length∧b.length≤s.length:=by
 unfold I4 WG
 rw[xD s hl,Option.bind_some]
 by_cases h:s.head?=some 91
 ·rw[if_pos h,if_pos h]
  dsimp only
  rw[if_pos rfl,xE _ (by simp;omega),Option.bind_some]
  cases hc:Q8 (s.drop 1)with
  |none=>exact⟨_,_,_,rfl,rfl,by simp,by simp⟩
  |some pq=>
   obtain⟨p,q⟩:=pq
   have hlen:=iE hc
   rw[List.length_drop]at hlen
   dsimp only
   refine⟨p,q,decide (58∈p),?_,?_,by omega,by omega⟩
   ·rw[Y3 p 58 (by omega)];rfl
   ·rw[Option.bind_some]
    by_cases hm:(58:UInt8)∈p
    ·rw[if_pos hm,if_pos (decide_eq_true hm)]
    ·rw[if_neg hm,if_neg (by rw[decide_eq_true_eq];exact hm)]
 ·rw[if_neg h,if_neg h]
  dsimp only
  rw[if_neg (by decide)]
  have hi:DC ([58]:AH) 0=some 58:=rfl
  rw[hi,Option.bind_some,oY s 58 (by omega),Option.bind_some]
  refine⟨_,_,_,rfl,?_,?_,?_⟩
  ·rw[iC]
   by_cases hm:(58:UInt8)∈s
   ·rw[if_pos hm,if_pos (decide_eq_true hm)]
   ·rw[if_neg hm,if_neg (by rw[decide_eq_true_eq];exact hm)]
  ·unfold Y2
   split
   ·exact List.Sublist.length_le (List.takeWhile_sublist _)
   ·exact Nat.le_refl _
  ·unfold Y2
   split
   ·have:=List.Sublist.length_le (List.dropWhile_sublist (l:=s) (fun x=>x != 58))
    simp only[List.length_drop];omega
   ·simp
theorem P3(s:AH)(hl:s.length<1073741824):HH s=some (G0 s):=by
 obtain⟨a,b,c,h1,h2,h3,h4⟩:=lK s hl
 unfold HH G0
 rw[h1,Option.bind_some,h2]
 cases c with
 |false=>rfl
 |true=>
  rw[if_pos rfl]
  dsimp only
  rw[if_neg (by decide),mW a (by omega),Option.bind_some]
  by_cases ha:(Lm a).2=0
  ·rw[if_neg (by simp[ha]),if_pos ha,Ol b _ (by omega),Option.bind_some]
   unfold Xe
   have em:(65535:UInt64).toNat=65535:=rfl
   rw[em]
   dsimp only
   by_cases hd:(Dn b 65535).2=0
   ·have hb:(Dn b 65535).1≤65535:=by
     unfold Dn at hd ⊢
     split
     ·simp
     ·split
      ·simp
      ·dsimp only;omega
    rw[if_neg (by simp[hd]),if_pos hd]
    have et:(UInt64.ofNat (Dn b 65535).1).toNat=(Dn b 65535).1:=by rw[UInt64.toNat_ofNat'];omega
    rw[et]
    by_cases h0:(Dn b 65535).1=0
    ·rw[if_pos (by rw[decide_eq_true_eq,h0];rfl),if_pos h0];rfl
    ·rw[if_neg (by rw[decide_eq_true_eq];intro e;exact h0 (Int.ofNat.inj e)),if_neg h0,Bu (by omega)]
   ·rw[if_pos (by simp[hd]),if_neg hd];rfl
  ·rw[if_pos (by simp[ha]),if_neg ha];rfl
end Go.Proofs.YtobejhpigbllpaaGreatDoor.Am
namespace Go.Proofs.YtobejhpigbllpaaGreatDoor.Am
theorem cmpK1(x y:Ar UInt8 32):Y4 (F5.arr 32 F5.u8) x y=decide (x=y):=
 if h:x=y then(Xj (t:=T.arr 32 T.u8) h).trans (decide_eq_true h).symm else(bY (t:=T.arr 32 T.u8) h).trans (decide_eq_false h).symm
theorem Qp{α:Type}{bytes:Nat}{l m:List α}(h:(l.length+m.length)*bytes≤Di):Ng bytes (GS.mk l) m=some (.mk (l++m)):=by
 unfold Ng
 rw[EI,if_pos h]
 rfl
theorem mK(a b:List UInt8)(hl:a.length=b.length)(hb:a.length<4611686018427387904): ∀k i,a.length=i+k→a.take i=b.take i→
  iter (fun(s4:Int)=>
   if(decide (s4<(a.length:Int)))=true then
   (DC a s4).bind fun x8=>
   (DC b s4).bind fun x10=>
   if(!decide ((x8.toNat:Int)=(x10.toNat:Int)))=true then
   (some false).map fun r=> .inr (.inr r)
   else
   some (.inl (IntKind.i64.wrap (s4+1)))
   else
   some (.inr (.inl ()))) (i:Int)=some (if a=b then(.inl ():Unit⊕Bool)else .inr false):=by
 intro k
 induction k with
 |zero=>
  intro i hk ht
  have hab:a=b:=by rw[List.take_of_length_le (by omega),List.take_of_length_le (by omega)]at ht;exact ht
  rw[if_pos hab,Bs (b:= .inl ())]
  rw[if_neg (by rw[decide_eq_true_eq];omega)]
 |succ k ih=>
  intro i hk ht
  have h1:i<a.length:=by omega
  have h2:i<b.length:=by omega
  by_cases h:a[i]=b[i]
  ·rw[BZ (s':=((i+1:Nat):Int)),ih (i+1) (by omega) (by rw[List.take_succ_eq_append_getElem h1,List.take_succ_eq_append_getElem h2,ht,h])]
   rw[if_pos (by rw[decide_eq_true_eq];omega),BF,List.getElem?_eq_getElem h1,Option.bind_some,BF,List.getElem?_eq_getElem h2,Option.bind_some,if_neg (by rw[h];simp),show(i:Int)+1=((i+1:Nat):Int) by omega,Bu (by omega)]
  ·have hab:a≠b:=fun e=>h (by subst e;rfl)
   rw[if_neg hab,Bs (b:= .inr false)]
   rw[if_pos (by rw[decide_eq_true_eq];omega),BF,List.getElem?_eq_getElem h1,Option.bind_some,BF,List.getElem?_eq_getElem h2,Option.bind_some,if_pos]
   ·rfl
   ·have: ¬((a[i].toNat:Int)=(b[i].toNat:Int)):=fun e=>h (UInt8.toNat_inj.1 (Int.ofNat.inj e))
    rw[decide_eq_false this];rfl
theorem tV(a b:GS UInt8)(hb:a.l.length<4611686018427387904):RS a b=some (decide (a.l=b.l)):=by
 unfold RS
 by_cases hl:a.l.length=b.l.length
 ·dsimp only
  rw[if_neg (by rw[decide_eq_true (by omega:((a.l.length:Int)=(b.l.length:Int)))];decide)]
  refine(congrArg (fun x:Option (Unit⊕Bool)=>x.bind _) (mK a.l b.l hl hb a.l.length 0 (by omega) rfl)).trans ?_
  by_cases h:a.l=b.l
  ·rw[if_pos h,decide_eq_true h];rfl
  ·rw[if_neg h,decide_eq_false h];rfl
 ·dsimp only
  have h: ¬a.l=b.l:=fun e=>hl (by rw[e])
  rw[if_pos (by rw[decide_eq_false (by omega: ¬((a.l.length:Int)=(b.l.length:Int)))];rfl),decide_eq_false h]
def OE(a b:Al):Bool:=decide (a.Kind=b.Kind)&&(decide (a.Bytes.l=b.Bytes.l)&&(decide (a.To=b.To)&&(decide (a.Key=b.Key)&&decide (a.Why=b.Why))))
theorem and5'(a b c d e:Bool):((Cg a ((some b).bind fun x=>some x)).bind fun x=>(Cg x (some c)).bind fun x=>(Cg x (some d)).bind fun x=>(Cg x (some e)).bind fun x=>some x)=some (a&&(b&&(c&&(d&&e)))):=by cases a<;>cases b<;>cases c<;>cases d<;>cases e<;>rfl
theorem VO(a b:Al):FS a b=some (OE a b):=by
 unfold FS OE PJ
 rw[cmpE,cmpK1]
 exact and5' _ _ _ _ _
theorem sameR(a b:Al)(h:a.Bytes.l.length<4611686018427387904):RQ a b=some (OE a b):=by
 unfold RQ OE
 rw[cmpE,cmpK1,tV _ _ h]
 exact and5' _ _ _ _ _
def cV(e:Al):Bool:=
 if e.Kind=1∨e.Kind=4 then decide (e.To=CW)&&(decide (e.Key=zK)&&decide (e.Why=0))
 else if e.Kind=2 then JV e.To&&decide (e.Why=0)
 else if e.Kind=3 then decide (e.To=CW)&&decide (e.Why=0)
 else if e.Kind=5 then(decide (1≤e.Why)&&decide (e.Why≤20))&&(decide (e.Bytes.l=[])&&(decide (e.To=CW)&&decide (e.Key=zK)))
 else if e.Kind=6 then JV e.To&&(decide (e.Key=zK)&&decide (e.Why=0))
 else false
theorem b2(a b:Bool):((Cg a (some true)).bind fun x27=>(Cg x27 ((some b).bind fun x=>some x)).bind fun x=>some x)=some (a&&b):=by cases a<;>cases b<;>rfl
theorem nX(w:Int):L8 w=some (decide (1≤w)&&decide (w≤20)):=by
 unfold L8
 cases decide (1≤w)<;>cases decide (w≤20)<;>rfl
theorem kinds{P:Int→Prop}(h1:P 1)(h2:P 2)(h3:P 3)(h4:P 4)(h5:P 5)(h6:P 6)(h: ∀k,k≠1→k≠2→k≠3→k≠4→k≠5→k≠6→P k)(k:Int):P k:=by
 by_cases e1:k=1
 ·subst e1;exact h1
 by_cases e2:k=2
 ·subst e2;exact h2
 by_cases e3:k=3
 ·subst e3;exact h3
 by_cases e4:k=4
 ·subst e4;exact h4
 by_cases e5:k=5
 ·subst e5;exact h5
 by_cases e6:k=6
 ·subst e6;exact h6
 exact h k e1 e2 e3 e4 e5 e6
theorem zE0:At.z=CW:=rfl
theorem zK0:(T.arr 32 T.u8).z=zK:=rfl
theorem zE1:(⟨Aw.z,0⟩:AI)=CW:=rfl
theorem zK1:(⟨[0,0,0,0,0,0,0,0,0,0,0,0,0,0,0,0,0,0,0,0,0,0,0,0,0,0,0,0,0,0,0,0],rfl⟩:Ar UInt8 32)=zK:=rfl
theorem nil_l:(GS.nil:GS UInt8).l=[]:=rfl
theorem HB(e:Al):E3 e=some (cV e):=by
 obtain⟨k,b,t,y,w⟩:=e
 have ct:(CW=t)=(t=CW):=propext eq_comm
 have cy:(zK=y)=(y=zK):=propext eq_comm
 have cw:(0=w)=(w=0):=propext eq_comm
 revert k
 refine kinds ?_ ?_ ?_ ?_ ?_ ?_ ?_
 ·simp[E3,cV,VO,OE,Cg,zE0,zK0,zE1,zK1]
 ·simp[E3,cV,VO,OE,Cg,zE0,zK0,zE1,zK1,Ro]
  by_cases hw:w=0<;>cases JV t<;>simp[hw]
 ·simp[E3,cV,VO,OE,Cg,zE0,zK0,zE1,zK1]
 ·simp[E3,cV,VO,OE,Cg,zE0,zK0,zE1,zK1]
 ·simp only[E3,cV,VO,OE,zE0,zK0,zE1,zK1,nil_l,nX]
  by_cases h1:1≤w<;>by_cases h2:w≤20<;>simp[h1,h2,Cg]<;>rfl
 ·simp[E3,cV,VO,OE,Cg,zE0,zK0,zE1,zK1,Ro]
  by_cases hw:w=0<;>by_cases hy:y=zK<;>cases JV t<;>simp[hw,hy]
 ·intro k h1 h2 h3 h4 h5 h6
  simp[E3,cV,VO,Cg,h1,h2,h3,h4,h5,h6]
def OB(b:List UInt8):AH:=if b=[]then [45]else MS b
def w1:AH:=[114,101,112,108,121]
def w2:AH:=[115,101,110,100]
def w3:AH:=[100,101,108,105,118,101,114]
def w4:AH:=[114,101,102,117,115,101]
def w5:AH:=[100,114,111,112]
def w6:AH:=[112,97,115,115]
def evF(e:Al):List AH:=
 if e.Kind=1 then [w1,OB e.Bytes.l]else if e.Kind=2 then [w2,Sf e.To,MS e.Key.l,OB e.Bytes.l]else if e.Kind=3 then [w3,MS e.Key.l,OB e.Bytes.l]else if e.Kind=4 then [w4,OB e.Bytes.l]
 else if e.Kind=5 then [w5,Q7 e.Why.toNat]else [w6,Sf e.To,OB e.Bytes.l]
def evT(e:Al):AH:=EE [32] (evF e)
theorem pG{b:List UInt8}(h:b.length≤9000):(OB b).length≤18000:=by
 unfold OB
 split
 ·simp
 ·rw[Sk];omega
theorem PK(e:Al)(h:e.Bytes.l.length≤9000):FF e=some (OB e.Bytes.l):=by
 unfold FF OB
 by_cases hb:e.Bytes.l=[]
 ·rw[if_pos (by rw[decide_eq_true_eq,hb];rfl),if_pos hb]
 ·rw[if_neg (by rw[decide_eq_true_eq];intro h0;exact hb (List.length_eq_zero_iff.1 (by omega))),if_neg hb,Sg _ (by omega)];rfl
theorem sS(e:Al):LL e=some (Sf e.To):=by unfold LL;rw[rH];rfl
theorem nZ(e:Al):K6 e=some (MS e.Key.l):=by unfold K6;rw[vN];rfl
theorem yH(e:Al)(h:1≤e.Why∧e.Why≤20):Mm e=some (Q7 e.Why.toNat):=by unfold Mm;rw[Ok,eG (by omega) (by omega)];rfl
theorem W7{a b:AH}(ha:a.length≤100000)(hb:b.length≤100000):(Ng 16 (GS.mk [a]) [b]).bind (fun x=>(CH x [32]).bind fun y=>some (y,(0:Int)))=some (EE [32] [a,b],0):=by
 rw[Qp (by simp[Di]),Option.bind_some,P1 _ _ (by simp[GS.l]) (by simp) (by simp only[GS.l,HX,ON];simp;omega)];rfl
theorem W8{a b c:AH}(ha:a.length≤100000)(hb:b.length≤100000)(hc:c.length≤100000):(Ng 16 (GS.mk [a]) [b]).bind (fun x=>(Ng 16 x [c]).bind fun x=>(CH x [32]).bind fun y=>some (y,(0:Int)))=some (EE [32] [a,b,c],0):=by
 rw[Qp (by simp[Di]),Option.bind_some,List.singleton_append,Qp (by simp[Di]),Option.bind_some,P1 _ _ (by simp[GS.l]) (by simp) (by simp only[GS.l,HX,ON];simp;omega)];rfl
theorem rC{a b c d:AH}(ha:a.length≤100000)(hb:b.length≤100000)(hc:c.length≤100000)(hd:d.length≤100000):(Ng 16 (GS.mk [a]) [b]).bind (fun x=>(Ng 16 x [c]).bind fun x=>(Ng 16 x [d]).bind fun x=>(CH x [32]).bind fun y=>some (y,(0:Int)))=some (EE [32] [a,b,c,d],0):=by
 rw[Qp (by simp[Di]),Option.bind_some,List.singleton_append,Qp (by simp[Di]),Option.bind_some,Qp (by simp[Di]),Option.bind_some,P1 _ _ (by simp[GS.l]) (by simp) (by simp only[GS.l,HX,ON];simp;omega)];rfl
theorem Aa8(K:Ar UInt8 32):(MS K.l).length=64:=by rw[Sk,K.len]
theorem dE(k:Int)(b:GS UInt8)(t:AI)(y:Ar UInt8 32)(w:Int)(hb:b.l.length≤9000)(h:cV ⟨k,b,t,y,w⟩=true):FQ ⟨k,b,t,y,w⟩=some (evT ⟨k,b,t,y,w⟩,0):=by
 have l1:=pG hb
 have l2:=rI t
 have l3:=Aa8 y
 revert h
 revert k
 refine kinds ?_ ?_ ?_ ?_ ?_ ?_ ?_
 ·intro h
  have b1:=PK ⟨1,b,t,y,w⟩ hb
  unfold FQ
  rw[HB,h]
  refine(congrArg (fun x:Option AH=>x.bind _) b1).trans ?_
  exact W7 (a:=w1) (by decide) (by dsimp only;omega)
 ·intro h
  have b1:=PK ⟨2,b,t,y,w⟩ hb
  have b2:=sS ⟨2,b,t,y,w⟩
  have b3:=nZ ⟨2,b,t,y,w⟩
  unfold FQ
  rw[HB,h]
  refine(congrArg (fun x:Option AH=>x.bind _) b2).trans ?_
  refine Eq.trans ?_ (rC (a:=w2) (b:=Sf t) (c:=MS y.l) (d:=OB b.l) (by decide) (by omega) (by omega) (by omega))
  rw[Option.bind_some,b3,b1]
  rfl
 ·intro h
  have b1:=PK ⟨3,b,t,y,w⟩ hb
  have b3:=nZ ⟨3,b,t,y,w⟩
  unfold FQ
  rw[HB,h]
  refine(congrArg (fun x:Option AH=>x.bind _) b3).trans ?_
  refine Eq.trans ?_ (W8 (a:=w3) (b:=MS y.l) (c:=OB b.l) (by decide) (by omega) (by omega))
  rw[Option.bind_some,b1]
  rfl
 ·intro h
  have b1:=PK ⟨4,b,t,y,w⟩ hb
  unfold FQ
  rw[HB,h]
  refine(congrArg (fun x:Option AH=>x.bind _) b1).trans ?_
  exact W7 (a:=w4) (by decide) (by dsimp only;omega)
 ·intro h
  have hw:1≤w∧w≤20:=by
   unfold cV at h
   simp at h
   exact h.1
  have b1:=yH ⟨5,b,t,y,w⟩ hw
  have l4:=Sw w.toNat
  unfold FQ
  rw[HB,h]
  refine(congrArg (fun x:Option AH=>x.bind _) b1).trans ?_
  exact W7 (a:=w5) (by decide) (by dsimp only;omega)
 ·intro h
  have b1:=PK ⟨6,b,t,y,w⟩ hb
  have b2:=sS ⟨6,b,t,y,w⟩
  unfold FQ
  rw[HB,h]
  refine(congrArg (fun x:Option AH=>x.bind _) b2).trans ?_
  refine Eq.trans ?_ (W8 (a:=w6) (b:=Sf t) (c:=OB b.l) (by decide) (by omega) (by omega))
  rw[Option.bind_some,b1]
  rfl
 ·intro k h1 h2 h3 h4 h5 h6 h
  unfold cV at h
  simp[h1,h2,h3,h4,h5,h6]at h
theorem jM(e:Al)(hb:e.Bytes.l.length≤9000)(h:cV e=true):FQ e=some (evT e,0):=dE e.Kind e.Bytes e.To e.Key e.Why hb h
end Go.Proofs.YtobejhpigbllpaaGreatDoor.Am
namespace Go.Proofs.YtobejhpigbllpaaGreatDoor.Am
theorem LD(k:Nat){a:AH}(h: ∀i,i<k→(decide (i<6))=true){F:Int→Option (Int⊕(Unit⊕Int))}
  (h1: ∀i,i<k→F ((1+i:Nat):Int)=some (.inl ((1+(i+1):Nat):Int))) (h2:F ((1+k:Nat):Int)=some (.inr (.inr ((1+k:Nat):Int)))):
  (iter F 1).bind (Sum.elim (fun _:Unit=>some 0) some)=some ((1+k:Nat):Int):=by
 have:=qS (s:=(1:Int)) k (fun i=>((1+i:Nat):Int)) (r:= .inr ((1+k:Nat):Int)) rfl h1 h2
 rw[this];rfl
theorem kind1:EJ w1=some 1:=LD 0 (a:=w1) (fun i h=>absurd h (by omega)) (fun i h=>absurd h (by omega)) rfl
theorem kind2:EJ w2=some 2:=LD 1 (a:=w2) (fun i h=>by rw[decide_eq_true_eq];omega) (fun i h=>match i,h with|0,_=>rfl) rfl
theorem kind3:EJ w3=some 3:=LD 2 (a:=w3) (fun i h=>by rw[decide_eq_true_eq];omega) (fun i h=>match i,h with|0,_=>rfl|1,_=>rfl) rfl
theorem kind4:EJ w4=some 4:=LD 3 (a:=w4) (fun i h=>by rw[decide_eq_true_eq];omega) (fun i h=>match i,h with|0,_=>rfl|1,_=>rfl|2,_=>rfl) rfl
theorem kind5:EJ w5=some 5:=LD 4 (a:=w5) (fun i h=>by rw[decide_eq_true_eq];omega) (fun i h=>match i,h with|0,_=>rfl|1,_=>rfl|2,_=>rfl|3,_=>rfl) rfl
theorem kind6:EJ w6=some 6:=LD 5 (a:=w6) (fun i h=>by rw[decide_eq_true_eq];omega) (fun i h=>match i,h with|0,_=>rfl|1,_=>rfl|2,_=>rfl|3,_=>rfl|4,_=>rfl) rfl
def MK:Al:=⟨0, .nil,CW,zK,0⟩
theorem HE(s:AH)(hl:s.length<1073741824){F:List AH}(h:AL 32 s=F){w:AH}{k:Int}(h0:F[0]? =some w)(hk:EJ w=some k){γ:Type}{K:GS AH→Int→Option γ}:
  ((DC ([32]:AH) 0).bind fun x2=>(IS s x2).bind fun x3=>(DC x3.l 0).bind fun x4=>(EJ x4).bind fun x6=>K x3 x6)=K (.mk F) k:=by
 have hi:DC ([32]:AH) 0=some 32:=rfl
 rw[hi,Option.bind_some,YT s 32 hl,Option.bind_some,h]
 have h0':DC (GS.mk F).l 0=some w:=by
  show F[(0:Int).toNat]? =some w
  exact h0
 rw[h0',Option.bind_some,hk,Option.bind_some]
theorem QL:Nu ()=some true:=by
 have h:=jM ⟨5, .nil,CW,zK,7⟩ (by decide) (by decide)
 have ht:evT ⟨5, .nil,CW,zK,7⟩=[100,114,111,112,32,55]:=by decide
 unfold Nu
 refine(congrArg (fun x:Option (AH×Int)=>(x.bind _)) h).trans ?_
 rw[ht];rfl
end Go.Proofs.YtobejhpigbllpaaGreatDoor.Am
namespace Go.Proofs.YtobejhpigbllpaaGreatDoor.Am
theorem rD(n:Nat)(p:Nat→Bool){β:Type}(g:Nat→β){F:Int→Option (Int⊕(Unit⊕β))}
  (h1: ∀i,i<n→F (i:Int)=if p i=true then some (.inr (.inr (g i)))else some (.inl ((i+1:Nat):Int))) (h2:F (n:Int)=some (.inr (.inl ()))):
  iter F 0=some (match(List.range n).find? p with|some i=> .inr (g i)|none=> .inl ()):=by
 have key: ∀k i,n=i+k→iter F (i:Int)=some (match(List.range' i k).find? p with|some i=> .inr (g i)|none=> .inl ()):=by
  intro k
  induction k with
  |zero=>
   intro i hk
   rw[Bs (b:= .inl ()) (by rw[←show n=i by omega];exact h2)]
   rfl
  |succ k ih=>
   intro i hk
   rw[List.range'_succ,List.find?_cons]
   cases hp:p i with
   |true=>rw[Bs (b:= .inr (g i)) (by rw[h1 i (by omega),if_pos hp])]
   |false=>rw[BZ (s':=((i+1:Nat):Int)) (by rw[h1 i (by omega),if_neg (by rw[hp];decide)]),ih (i+1) (by omega)]
 have:=key n 0 (by omega)
 rw[List.range_eq_range']
 exact this
def xB(c:UInt8)(a:Bool)(i:Nat):Bool:=decide (((hd i).toNat:Int)=(c.toNat:Int))||(a&&(decide ((9:Int)<(i:Int))&&decide (((hd i).toNat:Int)=((HF ((c.toNat:Int)+((32:UInt8).toNat:Int))).toNat:Int))))
theorem rT: ∀k:Fin 256,(List.range 16).find? (xB (UInt8.ofNat k.1) false)=IL (UInt8.ofNat k.1):=by decide+kernel
theorem rS: ∀k:Fin 256,(List.range 16).find? (xB (UInt8.ofNat k.1) true)=IL (Tl (UInt8.ofNat k.1)):=by decide+kernel
def vI:Option Nat→Int
 |some v=>(v:Int)
 |none=> -1
theorem PW(c:UInt8)(a:Bool):JW c a=some (vI (if a=true then IL (Tl c)else IL c)):=by
 have hf:(List.range 16).find? (xB c a)=if a=true then IL (Tl c)else IL c:=by
  have e:UInt8.ofNat c.toNat=c:=by simp
  cases a with
  |true=>have:=rS ⟨c.toNat,c.toNat_lt⟩;dsimp only at this;rw[e]at this;rw[this];rfl
  |false=>have:=rT ⟨c.toNat,c.toNat_lt⟩;dsimp only at this;rw[e]at this;rw[this];rfl
 unfold JW
 have hl:=rD 16 (xB c a) (fun i=>(i:Int)) (F:=fun(s1:Int)=>
  if(decide (s1<16))=true then
  (LA s1).bind fun x4=>
  (DC x4 0).bind fun x5=>
  (JJ (decide ((x5.toNat:Int)=(c.toNat:Int))) ((Cg a (some (decide (9<s1)))).bind fun x8=>
  (Cg x8 ((LA s1).bind fun x9=>
  (DC x9 0).bind fun x10=>
  let x11:=HF ((c.toNat:Int)+((32:UInt8).toNat:Int))
  some (decide ((x10.toNat:Int)=(x11.toNat:Int))))).bind fun x13=>
  some x13)).bind fun x14=>
  if x14=true then
  (some s1).map fun r=> .inr (.inr r)
  else
  some (.inl (IntKind.i64.wrap (s1+1)))
  else
  some (.inr (.inl ()))) (fun i hi=>by
   have d:=XV ⟨i,hi⟩
   dsimp only at d
   have hx:DC [hd i] 0=some (hd i):=rfl
   dsimp only
   rw[if_pos (by rw[decide_eq_true_eq];omega),d,Option.bind_some,hx,Option.bind_some]
   have hw:IntKind.i64.wrap ((i:Int)+1)=((i+1:Nat):Int):=by rw[show(i:Int)+1=((i+1:Nat):Int) by omega,Bu (by omega)]
   simp only[Option.bind_some,hx,hw]
   unfold xB
   cases decide (((hd i).toNat:Int)=(c.toNat:Int))<;>cases a<;>cases decide ((9:Int)<(i:Int))<;>simp[Cg,JJ]<;>split<;>simp_all) (by rfl)
 refine(congrArg (fun x:Option (Unit⊕Int)=>x.bind _) hl).trans ?_
 rw[hf]
 cases (if a=true then IL (Tl c)else IL c)<;>rfl
theorem hexI{x y:Nat}(hx:x<16)(hy:y<16):HF (IntKind.i64.wrap (IntKind.i64.wrap (16*(x:Int))+(y:Int)))=UInt8.ofNat (16*x+y):=by
 rw[show(16:Int)*(x:Int)=((16*x:Nat):Int) by omega,Bu (by omega),show((16*x:Nat):Int)+(y:Int)=((16*x+y:Nat):Int) by omega,Bu (by omega)]
 unfold HF
 rw[show(((16*x+y:Nat):Int)%256).toNat=16*x+y by omega]
theorem VZ(s:AH)(hl:s.length<1073741824):LS s=some (aZ s):=by
 unfold LS
 refine(congrArg (fun x:Option Int=>x.bind _) (tm2N s.length)).trans ?_
 rw[Option.bind_some]
 by_cases he:s.length%2=0
 ·rw[if_neg (by rw[he];decide)]
  refine fR s hl he ?_ ?_
  ·intro k g a b hk ha hb
   dsimp only
   rw[if_pos (by rw[decide_eq_true_eq];omega),BF,ha,Option.bind_some,PW,Option.bind_some,show((2*k:Nat):Int)+1=((2*k+1:Nat):Int) by omega,Bu (by omega),BF,hb,Option.bind_some,PW,Option.bind_some]
   simp only[Bool.false_eq_true,if_false]
   cases h1:IL a with
   |none=>
    have e:decide (vI none<0)=true:=rfl
    rw[e];rfl
   |some x=>
    have e:decide (vI (some x)<0)=false:=decide_eq_false (by simp[vI])
    rw[e]
    cases h2:IL b with
    |none=>
     have e:decide (vI none<0)=true:=rfl
     rw[e];rfl
    |some y=>
     have e:decide (vI (some y)<0)=false:=decide_eq_false (by simp[vI])
     rw[e]
     have hx:=Si h1
     have hy:=Si h2
     have q:HF (IntKind.i64.wrap (IntKind.i64.wrap (16*vI (some x))+vI (some y)))=UInt8.ofNat (16*x+y):=hexI hx hy
     simp only[JJ,Option.bind_some,Bool.false_eq_true,if_false]
     rw[q,show((2*k:Nat):Int)+2=((2*k+2:Nat):Int) by omega,Bu (by omega)]
     cases Ng 1 g [UInt8.ofNat (16*x+y)]<;>rfl
  ·intro g
   dsimp only
   rw[if_neg (by rw[decide_eq_true_eq];omega)]
 ·rw[if_pos (by rw[show s.length%2=1 by omega];decide)]
  unfold aZ
  rw[WF (by omega)]
theorem xO{n:Nat}(g:List UInt8)(hg:g.length=n)(hn:n<1000000)(z:Ar UInt8 n){F:Int×Ar UInt8 n→Option ((Int×Ar UInt8 n)⊕(Ar UInt8 n⊕(Ar UInt8 n×Int)))}
  (h1: ∀(i:Nat) (A:Ar UInt8 n) (x:UInt8),i<n→g[i]? =some x→F ((i:Int),A)=some (.inl (((i+1:Nat):Int),A.set i x))) (h2: ∀A,F ((n:Int),A)=some (.inr (.inl A))):
  iter F (0,z)=some (.inl ⟨g,hg⟩):=by
 have key: ∀k i (A:Ar UInt8 n),i+k=n→A.l.take i=g.take i→iter F ((i:Int),A)=some (.inl ⟨g,hg⟩):=by
  intro k
  induction k with
  |zero=>
   intro i A hi ht
   obtain rfl:i=n:=by omega
   rw[Bs (h2 A)]
   congr 2
   apply Ar.ext
   rw[List.take_of_length_le (by rw[A.len];omega),List.take_of_length_le (by omega)]at ht
   exact ht
  |succ k ih=>
   intro i A hi ht
   have hlt:i<g.length:=by omega
   rw[BZ (h1 i A g[i] (by omega) (List.getElem?_eq_getElem hlt))]
   refine ih (i+1) _ (by omega) ?_
   show(A.l.set i g[i]).take (i+1)=_
   rw[RM (by rw[A.len];omega) ht,List.take_succ_eq_append_getElem hlt]
 exact key n 0 z (by omega) (by simp)
theorem r07_of(g:GS UInt8):ZZ g=some (if g.l.length<32 then(zK,3)else if 32<g.l.length then(zK,4)else(mT g.l,0)):=by
 unfold ZZ
 by_cases h1:g.l.length<32
 ·rw[if_pos (by rw[decide_eq_true_eq];omega),if_pos h1]
 ·rw[if_neg (by rw[decide_eq_true_eq];omega),if_neg h1]
  by_cases h2:32<g.l.length
  ·rw[if_pos (by rw[decide_eq_true_eq];omega),if_pos h2]
  ·rw[if_neg (by rw[decide_eq_true_eq];omega),if_neg h2]
   have hl:g.l.length=32:=by omega
   refine(congrArg (fun x:Option (Ar UInt8 32⊕(Ar UInt8 32×Int))=>x.bind _) (xO g.l hl (by decide) _ (fun i A x hi hx=> ?_) (fun A=> ?_))).trans ?_
   ·dsimp only
    rw[if_pos (by rw[decide_eq_true_eq];omega),BF,hx,Option.bind_some,E4 hi,Option.bind_some,if_pos hi,Option.bind_some,show(i:Int)+1=((i+1:Nat):Int) by omega,Bu (by omega)]
   ·rfl
   ·unfold mT
    rw[dif_pos hl];rfl
theorem ZY(s:AH)(hl:s.length<1073741824):Jj s=some (Nv s):=by
 unfold Jj Nv
 rw[VZ s hl,Option.bind_some]
 unfold aZ
 cases h:MT s with
 |none=>rfl
 |some l=>
  have e:(!decide ((0:Int)=0))=false:=rfl
  dsimp only
  rw[if_neg (by rw[e];decide),r07_of,Option.bind_some,LZ]
theorem QH(s:AH)(hl:s.length<1073741824):Iu s=some (vI (VY s)):=by
 unfold Iu VY
 by_cases h1:s.length<1
 ·rw[show decide ((s.length:Int)<1)=true from decide_eq_true (by omega),if_neg (by omega)];rfl
 ·rw[show decide ((s.length:Int)<1)=false from decide_eq_false (by omega)]
  by_cases h4:4<s.length
  ·rw[show decide ((4:Int)<(s.length:Int))=true from decide_eq_true (by omega),if_neg (by omega)];rfl
  ·rw[show decide ((4:Int)<(s.length:Int))=false from decide_eq_false (by omega),if_pos (by omega)]
   have key: ∀k i n:Nat,s.length=i+k→n<16^i→iter (fun(s6:(Int×Int))=>
     if(decide (s6.2<(s.length:Int)))=true then
     (DC s s6.2).bind fun x10=>
     (JW x10 true).bind fun x11=>
     if(decide (x11<0))=true then
     (some (-1)).map fun r=> .inr (.inr r)
     else
     let x14:=IntKind.i64.wrap (IntKind.i64.wrap (16*s6.1)+x11)
     some (.inl (x14,IntKind.i64.wrap (s6.2+1)))
     else
     some (.inr (.inl s6.1))) ((n:Int),(i:Int))=some (match V0 n (s.drop i)with|some m=>(.inl (m:Int):Int⊕Int)|none=> .inr (-1)):=by
    intro k
    induction k with
    |zero=>
     intro i n hk hn
     rw[Bs (b:= .inl (n:Int)) (by rw[if_neg (by rw[decide_eq_true_eq];dsimp only;omega)]),List.drop_of_length_le (by omega)]
     rfl
    |succ k ih=>
     intro i n hk hn
     have hi:i<s.length:=by omega
     have hn4:n<4096:=Nat.lt_of_lt_of_le hn (by
      have:i≤3:=by omega
      calc 16^i≤16^3:=Nat.pow_le_pow_right (by decide) this
       _=4096:=by decide)
     rw[YB hi]
     cases hv:IL (Tl s[i])with
     |none=>
      rw[Bs (b:= .inr (-1))]
      ·rfl
      ·dsimp only
       rw[if_pos (by rw[decide_eq_true_eq];omega),BF,List.getElem?_eq_getElem hi,Option.bind_some,PW,if_pos rfl,hv,Option.bind_some,if_pos (by decide)]
       rfl
     |some v=>
      have hv16:=Sj hv
      rw[BZ (s':=(((16*n+v:Nat):Int),((i+1:Nat):Int))),ih (i+1) (16*n+v) (by omega) (by rw[Nat.pow_succ];omega)]
      ·rfl
      ·dsimp only
       rw[if_pos (by rw[decide_eq_true_eq];omega),BF,List.getElem?_eq_getElem hi,Option.bind_some,PW,if_pos rfl,hv,Option.bind_some,if_neg (by rw[decide_eq_true_eq];show¬((v:Int)<0);omega)]
       show some (Sum.inl (IntKind.i64.wrap (IntKind.i64.wrap (16*(n:Int))+(v:Int)),IntKind.i64.wrap ((i:Int)+1)))=_
       rw[show(16:Int)*(n:Int)=((16*n:Nat):Int) by omega,Bu (by omega),show((16*n:Nat):Int)+(v:Int)=((16*n+v:Nat):Int) by omega,Bu (by omega),show(i:Int)+1=((i+1:Nat):Int) by omega,Bu (by omega)]
   refine(congrArg (fun x:Option (Int⊕Int)=>x.bind _) (key s.length 0 0 (by omega) (by decide))).trans ?_
   rw[List.drop_zero]
   cases V0 0 s<;>rfl
theorem kB(s:AH)(hl:s.length<4611686018427387904): ∃k:Nat,NS s=some (k:Int)∧k≤s.length∧(k<s.length↔s.all MR=false):=by
 unfold NS
 obtain⟨r,e,n,rfl,h1,h2,h3⟩: ∃r:Int,iter (fun(s1:Int)=>
   (Cg (decide (s1<(s.length:Int))) ((DC s s1).bind fun x5=>
   let x6:=decide (((48:UInt8).toNat:Int)≤(x5.toNat:Int))
   some x6)).bind fun x7=>
   (Cg x7 ((DC s s1).bind fun x8=>
   let x9:=decide ((x8.toNat:Int)≤((57:UInt8).toNat:Int))
   some x9)).bind fun x10=>
   if x10=true then
   some (.inl (IntKind.i64.wrap (s1+1)))
   else
   some (.inr (.inl s1))) (0:Int)=some (Sum.inl r:Int⊕Int)∧ ∃n:Nat,r=n∧n≤s.length∧(s.take n).all MR=true∧(n<s.length→ ∃c,s[n]? =some c∧MR c=false):=by
  have key: ∀k i:Nat,s.length=i+k→(s.take i).all MR=true→ ∃n:Nat,iter (fun(s1:Int)=>
   (Cg (decide (s1<(s.length:Int))) ((DC s s1).bind fun x5=>
   let x6:=decide (((48:UInt8).toNat:Int)≤(x5.toNat:Int))
   some x6)).bind fun x7=>
   (Cg x7 ((DC s s1).bind fun x8=>
   let x9:=decide ((x8.toNat:Int)≤((57:UInt8).toNat:Int))
   some x9)).bind fun x10=>
   if x10=true then
   some (.inl (IntKind.i64.wrap (s1+1)))
   else
   some (.inr (.inl s1))) (i:Int)=some (Sum.inl (n:Int):Int⊕Int)∧n≤s.length∧(s.take n).all MR=true∧(n<s.length→ ∃c,s[n]? =some c∧MR c=false):=by
   intro k
   induction k with
   |zero=>
    intro i hk ha
    refine⟨i,Bs (b:=(Sum.inl (i:Int):Int⊕Int)) ?_,by omega,ha,fun h=>by omega⟩
    rw[decide_eq_false (by omega: ¬((i:Int)<(s.length:Int)))];rfl
   |succ k ih=>
    intro i hk ha
    have hi:i<s.length:=by omega
    have hx:DC s (i:Int)=some s[i]:=by rw[BF,List.getElem?_eq_getElem hi]
    have e:MR s[i]=(decide (((48:UInt8).toNat:Int)≤(s[i].toNat:Int))&&decide ((s[i].toNat:Int)≤((57:UInt8).toNat:Int))):=by
     unfold MR
     rw[←Bool.decide_and]
     apply decide_eq_decide.2
     show 48≤s[i].toNat∧s[i].toNat≤57↔((48:Nat):Int)≤(s[i].toNat:Int)∧(s[i].toNat:Int)≤((57:Nat):Int)
     omega
    cases hd:MR s[i]with
    |true=>
     rw[hd]at e
     have e':=e.symm
     rw[Bool.and_eq_true]at e'
     obtain⟨n,h1,h2⟩:=ih (i+1) (by omega) (by rw[QV hi,ha,hd];rfl)
     refine⟨n,?_,h2⟩
     rw[BZ (s':=((i+1:Nat):Int)),h1]
     rw[decide_eq_true (by omega:((i:Int)<(s.length:Int))),hx]
     simp only[Option.bind_some,Cg,if_true,e'.1,e'.2]
     rw[show(i:Int)+1=((i+1:Nat):Int) by omega,Bu (by omega)]
    |false=>
     rw[hd]at e
     refine⟨i,Bs (b:=(Sum.inl (i:Int):Int⊕Int)) ?_,by omega,ha,fun _=>⟨s[i],List.getElem?_eq_getElem hi,hd⟩⟩
     rw[decide_eq_true (by omega:((i:Int)<(s.length:Int))),hx]
     simp only[Option.bind_some,Cg,if_true]
     cases h1:decide (((48:UInt8).toNat:Int)≤(s[i].toNat:Int))<;>cases h2:decide ((s[i].toNat:Int)≤((57:UInt8).toNat:Int))<;>rw[h1,h2]at e<;>first|rfl|cases e
  obtain⟨n,h1,h2,h3,h4⟩:=key s.length 0 (by omega) (by simp)
  exact⟨(n:Int),h1,n,rfl,h2,h3,h4⟩
 refine⟨n,?_,h1,?_⟩
 ·refine(congrArg (fun x:Option (Int⊕Int)=>x.bind _) e).trans ?_;rfl
 ·constructor
  ·intro h
   obtain⟨c,hc,hd⟩:=h3 h
   rw[List.getElem?_eq_getElem h,Option.some.injEq]at hc
   cases ha:s.all MR with
   |false=>rfl
   |true=>
    have:=List.all_eq_true.1 ha s[n] (List.getElem_mem h)
    rw[hc,hd]at this;cases this
  ·intro h
   rcases Nat.lt_or_ge n s.length with hlt|hge
   ·exact hlt
   ·rw[List.take_of_length_le hge,h]at h2;cases h2
theorem eF{n:Nat}(h:n<18446744073709551616):(UInt64.ofNat n).toNat=n:=by rw[UInt64.toNat_ofNat'];omega
theorem AaA{c:UInt8}(h:MR c=true):48≤c.toNat∧c.toNat≤57:=by unfold MR at h;exact of_decide_eq_true h
noncomputable def nM(a0:AH)(a1:UInt64)(s13:UInt64×Int):Option ((UInt64×Int)⊕(UInt64⊕(UInt64×Int))):=
 if(decide (s13.2<(a0.length:Int)))=true then
 (DC a0 s13.2).bind fun x17=>
 let x19:=CI (((CI (x17.toNat:Int)).toNat:Int)-((48:UInt64).toNat:Int))
 (if((10:UInt64).toNat:Int)=0 then none else some (CI (Int.tdiv (a1.toNat:Int) ((10:UInt64).toNat:Int)))).bind fun x20=>
 (JJ (decide ((x20.toNat:Int)<(s13.1.toNat:Int))) (let x22:=CI (((10:UInt64).toNat:Int)*(s13.1.toNat:Int))
 let x23:=if(a1.toNat:Int)<(x19.toNat:Int)then a1 else x19
 let x25:=decide (((CI ((a1.toNat:Int)-(x23.toNat:Int))).toNat:Int)<(x22.toNat:Int))
 some x25)).bind fun x26=>
 (JJ x26 (some (decide ((a1.toNat:Int)<(x19.toNat:Int))))).bind fun x28=>
 if x28=true then
 (some ((0:UInt64),6)).map fun r=> .inr (.inr r)
 else
 let x29:=CI (((10:UInt64).toNat:Int)*(s13.1.toNat:Int))
 some (.inl (CI ((x29.toNat:Int)+(x19.toNat:Int)),IntKind.i64.wrap (s13.2+1)))
 else
 some (.inr (.inl s13.1))
theorem pJ(s:AH)(m:UInt64){i n:Nat}(hi:i<s.length)(hl:s.length<4611686018427387904)(hn:n≤m.toNat)(hd:MR s[i]=true):
  nM s m (UInt64.ofNat n,(i:Int))=if m.toNat<10*n+(s[i].toNat-48)then some (.inr (.inr (0,6)))else some (.inl (UInt64.ofNat (10*n+(s[i].toNat-48)),((i+1:Nat):Int))):=by
 have hm:=m.toNat_lt
 obtain⟨d1,d2⟩:=AaA hd
 have eN:(UInt64.ofNat n).toNat=n:=eF (by omega)
 have e48:((48:UInt64).toNat:Int)=((48:Nat):Int):=rfl
 have e10:((10:UInt64).toNat:Int)=((10:Nat):Int):=rfl
 have ed:(CI (((CI (s[i].toNat:Int)).toNat:Int)-((48:Nat):Int))).toNat=s[i].toNat-48:=by
  rw[G9 (by omega),show(s[i].toNat:Int)-((48:Nat):Int)=((s[i].toNat-48:Nat):Int) by omega,G9 (by omega)]
 have eq:(CI (Int.tdiv (m.toNat:Int) ((10:Nat):Int))).toNat=m.toNat/10:=by
  rw[←Int.ofNat_tdiv,G9 (by omega)]
 unfold nM
 dsimp only
 rw[if_pos (by rw[decide_eq_true_eq];omega),BF,List.getElem?_eq_getElem hi,Option.bind_some,e10,e48,if_neg (by decide),Option.bind_some,eq,eN]
 generalize hD:s[i].toNat-48=d at ed ⊢
 have hw:IntKind.i64.wrap ((i:Int)+1)=((i+1:Nat):Int):=by rw[show(i:Int)+1=((i+1:Nat):Int) by omega,Bu (by omega)]
 by_cases h1:m.toNat/10<n
 ·rw[if_pos (show m.toNat<10*n+d by omega),decide_eq_true (by omega:(((m.toNat/10:Nat):Int)<(n:Int)))];rfl
 ·have e22:(CI (((10:Nat):Int)*(n:Int))).toNat=10*n:=by
   rw[show((10:Nat):Int)*(n:Int)=((10*n:Nat):Int) by omega,G9 (by omega)]
  rw[decide_eq_false (by omega: ¬(((m.toNat/10:Nat):Int)<(n:Int))),e22,ed]
  by_cases h2:m.toNat<d
  ·rw[if_pos (by omega:(m.toNat:Int)<(d:Int)),if_pos (by omega),decide_eq_true (by omega:(m.toNat:Int)<(d:Int))]
   simp only[JJ,Option.bind_some,Bool.false_eq_true,if_false]
   split
   ·rfl
   ·rfl
  ·rw[if_neg (by omega: ¬(m.toNat:Int)<(d:Int)),ed,decide_eq_false (by omega: ¬(m.toNat:Int)<(d:Int)),show(m.toNat:Int)-(d:Int)=((m.toNat-d:Nat):Int) by omega,G9 (by omega)]
   by_cases h3:m.toNat<10*n+d
   ·rw[if_pos h3,decide_eq_true (by omega:((m.toNat-d:Nat):Int)<((10*n:Nat):Int))];rfl
   ·rw[if_neg h3,decide_eq_false (by omega: ¬((m.toNat-d:Nat):Int)<((10*n:Nat):Int))]
    simp only[JJ,Option.bind_some,Bool.false_eq_true,if_false]
    rw[hw,show((10*n:Nat):Int)+(d:Int)=((10*n+d:Nat):Int) by omega]
    congr 4
    apply UInt64.toNat_inj.1
    rw[G9 (by omega),eF (by omega)]
theorem aJ(s:AH)(m:UInt64)(hl:s.length<4611686018427387904)(ha:s.all MR=true): ∀k i n:Nat,s.length=i+k→n≤m.toNat→
  iter (nM s m) (UInt64.ofNat n,(i:Int))=some (if m.toNat<Ln n (s.drop i)then .inr (0,6)else .inl (UInt64.ofNat (Ln n (s.drop i)))):=by
 intro k
 induction k with
 |zero=>
  intro i n hk hn
  rw[List.drop_of_length_le (by omega),show Ln n []=n from rfl,if_neg (by omega)]
  refine Bs ?_
  unfold nM
  dsimp only
  rw[if_neg (by rw[decide_eq_true_eq];omega)]
 |succ k ih=>
  intro i n hk hn
  have hi:i<s.length:=by omega
  have hd:MR s[i]=true:=List.all_eq_true.1 ha s[i] (List.getElem_mem hi)
  have st:=pJ s m hi hl hn hd
  rw[List.drop_eq_getElem_cons hi,SM]
  by_cases h:m.toNat<10*n+(s[i].toNat-48)
  ·rw[if_pos h]at st
   have hg:=nK (s.drop (i+1)) (10*n+(s[i].toNat-48))
   rw[Bs st,if_pos (by omega)]
  ·rw[if_neg h]at st
   rw[BZ st,ih (i+1) _ (by omega) (by omega)]
theorem Wa(s:AH)(m:UInt64)(hl:s.length<1073741824):KD s m=some (Xe s m):=by
 obtain⟨k,hk,hkl,hka⟩:=kB s (by omega)
 unfold KD
 by_cases h0:s=[]
 ·rw[J1 (N6 (.inl h0)),show decide ((s.length:Int)=0)=true from decide_eq_true (by rw[h0];rfl)]
  rfl
 ·have hlen: ¬((s.length:Int)=0):=fun e=>h0 (List.length_eq_zero_iff.1 (by omega))
  rw[show decide ((s.length:Int)=0)=false from decide_eq_false hlen,hk]
  simp only[JJ,Option.bind_some,Bool.false_eq_true,if_false]
  by_cases ha:s.all MR=true
  ·rw[show decide ((k:Int)<(s.length:Int))=false from decide_eq_false (fun hlt=>by have:=hka.1 (by omega);rw[ha]at this;cases this)]
   simp only[Bool.false_eq_true,if_false]
   refine(congrArg (fun x:Option Bool=>x.bind _) (eW (K:=some) (s:=s))).trans ?_
   rw[Option.bind_some]
   by_cases hz:1<s.length∧s[0]? =some 48
   ·rw[J1 (N6 (.inr (.inr hz))),if_pos (decide_eq_true hz)];rfl
   ·have hg: ¬(s=[]∨s.all MR=false∨(1<s.length∧s[0]? =some 48)):=fun h=>h.elim h0 fun h=>h.elim (fun h=>by rw[ha]at h;cases h) hz
    rw[if_neg (by rw[decide_eq_false hz];decide)]
    have hd:=Zq (m:=m.toNat) hg
    refine(congrArg (fun x:Option (UInt64⊕(UInt64×Int))=>x.bind _) (aJ s m (by omega) ha s.length 0 0 (by omega) (Nat.zero_le _))).trans ?_
    rw[List.drop_zero]
    by_cases hv:m.toNat<Ln 0 s
    ·rw[if_pos hv]at hd ⊢
     rw[J1 hd];rfl
    ·rw[if_neg hv]at hd ⊢
     rw[J1 hd];rfl
  ·have ha':s.all MR=false:=by simpa using ha
   rw[J1 (N6 (.inr (.inl ha'))),show decide ((k:Int)<(s.length:Int))=true from decide_eq_true (by have:=hka.2 ha';omega)]
   rfl
end Go.Proofs.YtobejhpigbllpaaGreatDoor.Am
namespace Go.Proofs.YtobejhpigbllpaaGreatDoor.Am
def DY(w:AH):Int:=if w=w1 then 1 else if w=w2 then 2 else if w=w3 then 3 else if w=w4 then 4 else if w=w5 then 5 else if w=w6 then 6 else 0
theorem qX{F:Int→Option (Int⊕(Unit⊕Int))}(h1:F 1=some (.inl 2))(h2:F 2=some (.inl 3))(h3:F 3=some (.inl 4))(h4:F 4=some (.inl 5))(h5:F 5=some (.inl 6))(h6:F 6=some (.inl 7))(h7:F 7=some (.inr (.inl ()))):
  (iter F 1).bind (Sum.elim (fun _:Unit=>some 0) some)=some 0:=by
 rw[BZ h1,BZ h2,BZ h3,BZ h4,BZ h5,BZ h6,Bs h7];rfl
theorem Qc{α:Type}{w x:AH}{a b:Option α}(h:w≠x):(if decide (x=w)=true then a else b)=b:=if_neg (by rw[decide_eq_true_eq];exact fun e=>h e.symm)
theorem Fm(w:AH):EJ w=some (DY w):=by
 unfold DY
 by_cases e1:w=w1
 ·rw[if_pos e1,e1,kind1]
 rw[if_neg e1]
 by_cases e2:w=w2
 ·rw[if_pos e2,e2,kind2]
 rw[if_neg e2]
 by_cases e3:w=w3
 ·rw[if_pos e3,e3,kind3]
 rw[if_neg e3]
 by_cases e4:w=w4
 ·rw[if_pos e4,e4,kind4]
 rw[if_neg e4]
 by_cases e5:w=w5
 ·rw[if_pos e5,e5,kind5]
 rw[if_neg e5]
 by_cases e6:w=w6
 ·rw[if_pos e6,e6,kind6]
 rw[if_neg e6]
 unfold EJ
 refine qX ?_ ?_ ?_ ?_ ?_ ?_ ?_
 ·exact(Qc (x:=w1) e1).trans rfl
 ·exact(Qc (x:=w2) e2).trans rfl
 ·exact(Qc (x:=w3) e3).trans rfl
 ·exact(Qc (x:=w4) e4).trans rfl
 ·exact(Qc (x:=w5) e5).trans rfl
 ·exact(Qc (x:=w6) e6).trans rfl
 ·rfl
def H7(s:AH):GS UInt8×Int:=if s=[45]then(.nil,0)else if s=[]then(.nil,5)else aZ s
theorem LK(s:AH)(hl:s.length<1073741824):FE s=some (H7 s):=by
 unfold FE H7
 by_cases h1:s=[45]
 ·rw[if_pos (decide_eq_true h1),if_pos h1]
 ·rw[if_neg (by rw[decide_eq_true_eq];exact h1),if_neg h1]
  by_cases h2:s=[]
  ·rw[if_pos (decide_eq_true h2),if_pos h2]
  ·rw[if_neg (by rw[decide_eq_true_eq];exact h2),if_neg h2,Sh s hl];rfl
def KP(k:Int):Nat:=if k=2 then 4 else if k=3∨k=6 then 3 else 2
def Qz(x:Int)(e:Al)(f:Al×Int):Al×Int:=if x=0 then f else(MK,x)
def OX(s:AH):Int×Int:=let d:=Dn s 20;if d.2=0∧d.1=0 then(0,6)else((d.1:Int),d.2)
def LU(k:Int)(P:List AH):Al×Int:=
 if k=1∨k=4 then Qz (H7 (P.getD 1 [])).2 MK (⟨k,(H7 (P.getD 1 [])).1,CW,zK,0⟩,0)
 else if k=2 then Qz (G0 (P.getD 1 [])).2 MK (Qz (Nv (P.getD 2 [])).2 MK (Qz (H7 (P.getD 3 [])).2 MK (⟨2,(H7 (P.getD 3 [])).1,(G0 (P.getD 1 [])).1,(Nv (P.getD 2 [])).1,0⟩,0)))
 else if k=3 then Qz (Nv (P.getD 1 [])).2 MK (Qz (H7 (P.getD 2 [])).2 MK (⟨3,(H7 (P.getD 2 [])).1,CW,(Nv (P.getD 1 [])).1,0⟩,0))
 else if k=5 then Qz (OX (P.getD 1 [])).2 MK (⟨5, .nil,CW,zK,(OX (P.getD 1 [])).1⟩,0)
 else Qz (G0 (P.getD 1 [])).2 MK (Qz (H7 (P.getD 2 [])).2 MK (⟨6,(H7 (P.getD 2 [])).1,(G0 (P.getD 1 [])).1,zK,0⟩,0))
def ET(s:AH):Al×Int:=
 let P:=AL 32 s
 let k:=DY (P.getD 0 [])
 if k=0 then(MK,12)else if P.length=KP k then LU k P else(MK,5)
theorem Qk{F:List AH}{n:Nat}(hF:F.length<1073741825)(h0:1≤F.length):(!decide (IntKind.i64.wrap ((F.length:Int)-1)=(n:Int)))= !decide (F.length=n+1):=by
 rw[show(F.length:Int)-1=((F.length-1:Nat):Int) by omega,Bu (by omega)]
 congr 1
 exact decide_eq_decide.2 (by omega)
theorem qL(s:AH)(hl:s.length≤100000)(hk:DY ((AL 32 s).getD 0 [])=1):CB s=some (ET s):=by
 obtain⟨p,r,e⟩:=List.exists_cons_of_ne_nil (CD (c:=32) s)
 have hlen:(AL 32 s).length<1073741825:=by
  have h1:=FT (c:=32) s
  have h2:=List.countP_le_length (p:=fun x=>x==(32:UInt8)) (l:=s)
  omega
 have hsub: ∀x∈AL 32 s,x.length<1073741824:=fun x hx=>by have:=DX hx;omega
 unfold ET
 rw[e]at hk hlen hsub ⊢
 have hk':DY p=1:=hk
 unfold CB
 refine(HE s (by omega) e rfl (Fm p)).trans ?_
 dsimp only
 rw[hk,hk']
 rw[if_neg (show¬((1:Int)=0) by decide)]
 have hc:=Qk (n:=1) hlen (by simp)
 by_cases h2:(p::r).length=2
 ·have hb:=hc.trans (show(!decide ((p::r).length=1+1))=false by rw[decide_eq_true h2];rfl)
  refine(congrArg (fun b:Bool=>if b=true then some (MK,(5:Int))else _) hb).trans ?_
  rw[if_pos (show(p::r).length=KP 1 from h2)]
  match r,h2 with
  |[u],_=>
   refine(congrArg (fun x:Option (GS UInt8×Int)=>(x.bind _).bind _) (LK u (hsub u (by simp)))).trans ?_
   show(if(!decide ((H7 u).2=0))=true then _ else _)=_
   unfold LU Qz
   by_cases h0:(H7 u).2=0
   ·rw[if_neg (by rw[decide_eq_true h0];decide),if_pos (.inl rfl)]
    exact(congrArg some (if_pos h0)).symm
   ·rw[if_pos (by rw[decide_eq_false h0];rfl),if_pos (.inl rfl)]
    exact(congrArg some (if_neg h0)).symm
 ·have hb:=hc.trans (show(!decide ((p::r).length=1+1))=true by rw[decide_eq_false h2];rfl)
  refine(congrArg (fun b:Bool=>if b=true then some (MK,(5:Int))else _) hb).trans ?_
  rw[if_neg (show¬(p::r).length=KP 1 from h2)]
  rfl
theorem kI(s:AH)(hl:s.length≤100000)(hk:DY ((AL 32 s).getD 0 [])=4):CB s=some (ET s):=by
 obtain⟨p,r,e⟩:=List.exists_cons_of_ne_nil (CD (c:=32) s)
 have hlen:(AL 32 s).length<1073741825:=by
  have h1:=FT (c:=32) s
  have h2:=List.countP_le_length (p:=fun x=>x==(32:UInt8)) (l:=s)
  omega
 have hsub: ∀x∈AL 32 s,x.length<1073741824:=fun x hx=>by have:=DX hx;omega
 unfold ET
 rw[e]at hk hlen hsub ⊢
 have hk':DY p=4:=hk
 unfold CB
 refine(HE s (by omega) e rfl (Fm p)).trans ?_
 dsimp only
 rw[hk,hk']
 rw[if_neg (show¬((4:Int)=0) by decide)]
 have hc:=Qk (n:=1) hlen (by simp)
 by_cases h2:(p::r).length=2
 ·have hb:=hc.trans (show(!decide ((p::r).length=1+1))=false by rw[decide_eq_true h2];rfl)
  refine(congrArg (fun b:Bool=>if b=true then some (MK,(5:Int))else _) hb).trans ?_
  rw[if_pos (show(p::r).length=KP 4 from h2)]
  match r,h2 with
  |[u],_=>
   refine(congrArg (fun x:Option (GS UInt8×Int)=>(x.bind _).bind _) (LK u (hsub u (by simp)))).trans ?_
   show(if(!decide ((H7 u).2=0))=true then _ else _)=_
   unfold LU Qz
   by_cases h0:(H7 u).2=0
   ·rw[if_neg (by rw[decide_eq_true h0];decide),if_pos (.inr rfl)]
    exact(congrArg some (if_pos h0)).symm
   ·rw[if_pos (by rw[decide_eq_false h0];rfl),if_pos (.inr rfl)]
    exact(congrArg some (if_neg h0)).symm
 ·have hb:=hc.trans (show(!decide ((p::r).length=1+1))=true by rw[decide_eq_false h2];rfl)
  refine(congrArg (fun b:Bool=>if b=true then some (MK,(5:Int))else _) hb).trans ?_
  rw[if_neg (show¬(p::r).length=KP 4 from h2)]
  rfl
theorem dY(s:AH)(hl:s.length≤100000)(hk:DY ((AL 32 s).getD 0 [])=3):CB s=some (ET s):=by
 obtain⟨p,r,e⟩:=List.exists_cons_of_ne_nil (CD (c:=32) s)
 have hlen:(AL 32 s).length<1073741825:=by
  have h1:=FT (c:=32) s
  have h2:=List.countP_le_length (p:=fun x=>x==(32:UInt8)) (l:=s)
  omega
 have hsub: ∀x∈AL 32 s,x.length<1073741824:=fun x hx=>by have:=DX hx;omega
 unfold ET
 rw[e]at hk hlen hsub ⊢
 have hk':DY p=3:=hk
 unfold CB
 refine(HE s (by omega) e rfl (Fm p)).trans ?_
 dsimp only
 rw[hk,hk']
 rw[if_neg (show¬((3:Int)=0) by decide)]
 have hc:=Qk (n:=2) hlen (by simp)
 by_cases h2:(p::r).length=3
 ·have hb:=hc.trans (show(!decide ((p::r).length=2+1))=false by rw[decide_eq_true h2];rfl)
  refine(congrArg (fun b:Bool=>if b=true then some (MK,(5:Int))else _) hb).trans ?_
  rw[if_pos (show(p::r).length=KP 3 from h2)]
  match r,h2 with
  |[u,v],_=>
   refine(congrArg (fun x:Option (Ar UInt8 32×Int)=>(x.bind _).bind _) (QM u (hsub u (by simp)))).trans ?_
   show(if(!decide ((Nv u).2=0))=true then _ else _)=some (Qz (Nv u).2 MK (Qz (H7 v).2 MK (⟨3,(H7 v).1,CW,(Nv u).1,0⟩,0)))
   unfold Qz
   by_cases h0:(Nv u).2=0
   ·rw[if_neg (by rw[decide_eq_true h0];decide),if_pos h0]
    refine(congrArg (fun x:Option (GS UInt8×Int)=>(x.bind _).bind _) (LK v (hsub v (by simp)))).trans ?_
    show(if(!decide ((H7 v).2=0))=true then _ else _)=_
    by_cases h1:(H7 v).2=0
    ·rw[if_neg (by rw[decide_eq_true h1];decide)]
     exact(congrArg some (if_pos h1)).symm
    ·rw[if_pos (by rw[decide_eq_false h1];rfl)]
     exact(congrArg some (if_neg h1)).symm
   ·rw[if_pos (by rw[decide_eq_false h0];rfl)]
    exact(congrArg some (if_neg h0)).symm
 ·have hb:=hc.trans (show(!decide ((p::r).length=2+1))=true by rw[decide_eq_false h2];rfl)
  refine(congrArg (fun b:Bool=>if b=true then some (MK,(5:Int))else _) hb).trans ?_
  rw[if_neg (show¬(p::r).length=KP 3 from h2)]
  rfl
theorem qK(s:AH)(hl:s.length≤100000)(hk:DY ((AL 32 s).getD 0 [])=6):CB s=some (ET s):=by
 obtain⟨p,r,e⟩:=List.exists_cons_of_ne_nil (CD (c:=32) s)
 have hlen:(AL 32 s).length<1073741825:=by
  have h1:=FT (c:=32) s
  have h2:=List.countP_le_length (p:=fun x=>x==(32:UInt8)) (l:=s)
  omega
 have hsub: ∀x∈AL 32 s,x.length<1073741824:=fun x hx=>by have:=DX hx;omega
 unfold ET
 rw[e]at hk hlen hsub ⊢
 have hk':DY p=6:=hk
 unfold CB
 refine(HE s (by omega) e rfl (Fm p)).trans ?_
 dsimp only
 rw[hk,hk']
 rw[if_neg (show¬((6:Int)=0) by decide)]
 have hc:=Qk (n:=2) hlen (by simp)
 by_cases h2:(p::r).length=3
 ·have hb:=hc.trans (show(!decide ((p::r).length=2+1))=false by rw[decide_eq_true h2];rfl)
  refine(congrArg (fun b:Bool=>if b=true then some (MK,(5:Int))else _) hb).trans ?_
  rw[if_pos (show(p::r).length=KP 6 from h2)]
  match r,h2 with
  |[u,v],_=>
   refine(congrArg (fun x:Option (AI×Int)=>(x.bind _).bind _) (P3 u (hsub u (by simp)))).trans ?_
   show(if(!decide ((G0 u).2=0))=true then _ else _)=some (Qz (G0 u).2 MK (Qz (H7 v).2 MK (⟨6,(H7 v).1,(G0 u).1,zK,0⟩,0)))
   unfold Qz
   by_cases h0:(G0 u).2=0
   ·rw[if_neg (by rw[decide_eq_true h0];decide),if_pos h0]
    refine(congrArg (fun x:Option (GS UInt8×Int)=>(x.bind _).bind _) (LK v (hsub v (by simp)))).trans ?_
    show(if(!decide ((H7 v).2=0))=true then _ else _)=_
    by_cases h1:(H7 v).2=0
    ·rw[if_neg (by rw[decide_eq_true h1];decide)]
     exact(congrArg some (if_pos h1)).symm
    ·rw[if_pos (by rw[decide_eq_false h1];rfl)]
     exact(congrArg some (if_neg h1)).symm
   ·rw[if_pos (by rw[decide_eq_false h0];rfl)]
    exact(congrArg some (if_neg h0)).symm
 ·have hb:=hc.trans (show(!decide ((p::r).length=2+1))=true by rw[decide_eq_false h2];rfl)
  refine(congrArg (fun b:Bool=>if b=true then some (MK,(5:Int))else _) hb).trans ?_
  rw[if_neg (show¬(p::r).length=KP 6 from h2)]
  rfl
theorem qJ(s:AH)(hl:s.length≤100000)(hk:DY ((AL 32 s).getD 0 [])=2):CB s=some (ET s):=by
 obtain⟨p,r,e⟩:=List.exists_cons_of_ne_nil (CD (c:=32) s)
 have hlen:(AL 32 s).length<1073741825:=by
  have h1:=FT (c:=32) s
  have h2:=List.countP_le_length (p:=fun x=>x==(32:UInt8)) (l:=s)
  omega
 have hsub: ∀x∈AL 32 s,x.length<1073741824:=fun x hx=>by have:=DX hx;omega
 unfold ET
 rw[e]at hk hlen hsub ⊢
 have hk':DY p=2:=hk
 unfold CB
 refine(HE s (by omega) e rfl (Fm p)).trans ?_
 dsimp only
 rw[hk,hk']
 rw[if_neg (show¬((2:Int)=0) by decide)]
 have hc:=Qk (n:=3) hlen (by simp)
 by_cases h2:(p::r).length=4
 ·have hb:=hc.trans (show(!decide ((p::r).length=3+1))=false by rw[decide_eq_true h2];rfl)
  refine(congrArg (fun b:Bool=>if b=true then some (MK,(5:Int))else _) hb).trans ?_
  rw[if_pos (show(p::r).length=KP 2 from h2)]
  match r,h2 with
  |[t,u,v],_=>
   refine(congrArg (fun x:Option (AI×Int)=>(x.bind _).bind _) (P3 t (hsub t (by simp)))).trans ?_
   show(if(!decide ((G0 t).2=0))=true then _ else _)=some (Qz (G0 t).2 MK (Qz (Nv u).2 MK (Qz (H7 v).2 MK (⟨2,(H7 v).1,(G0 t).1,(Nv u).1,0⟩,0))))
   unfold Qz
   by_cases hh:(G0 t).2=0
   ·rw[if_neg (by rw[decide_eq_true hh];decide),if_pos hh]
    refine(congrArg (fun x:Option (Ar UInt8 32×Int)=>(x.bind _).bind _) (QM u (hsub u (by simp)))).trans ?_
    show(if(!decide ((Nv u).2=0))=true then _ else _)=_
    by_cases h0:(Nv u).2=0
    ·rw[if_neg (by rw[decide_eq_true h0];decide),if_pos h0]
     refine(congrArg (fun x:Option (GS UInt8×Int)=>(x.bind _).bind _) (LK v (hsub v (by simp)))).trans ?_
     show(if(!decide ((H7 v).2=0))=true then _ else _)=_
     by_cases h1:(H7 v).2=0
     ·rw[if_neg (by rw[decide_eq_true h1];decide)]
      exact(congrArg some (if_pos h1)).symm
     ·rw[if_pos (by rw[decide_eq_false h1];rfl)]
      exact(congrArg some (if_neg h1)).symm
    ·rw[if_pos (by rw[decide_eq_false h0];rfl)]
     exact(congrArg some (if_neg h0)).symm
   ·rw[if_pos (by rw[decide_eq_false hh];rfl)]
    exact(congrArg some (if_neg hh)).symm
 ·have hb:=hc.trans (show(!decide ((p::r).length=3+1))=true by rw[decide_eq_false h2];rfl)
  refine(congrArg (fun b:Bool=>if b=true then some (MK,(5:Int))else _) hb).trans ?_
  rw[if_neg (show¬(p::r).length=KP 2 from h2)]
  rfl
theorem kH(s:AH)(hl:s.length≤100000)(hk:DY ((AL 32 s).getD 0 [])=0):CB s=some (ET s):=by
 obtain⟨p,r,e⟩:=List.exists_cons_of_ne_nil (CD (c:=32) s)
 unfold ET
 rw[e]at hk ⊢
 have hk':DY p=0:=hk
 unfold CB
 refine(HE s (by omega) e rfl (Fm p)).trans ?_
 dsimp only
 rw[hk,hk',if_pos rfl]
 rfl
theorem Vq(u:AH)(m:Nat):(Dn u m).1≤m:=by
 unfold Dn
 split
 ·simp
 ·split
  ·simp
  ·dsimp only;omega
theorem sP(u:AH)(hl:u.length<1073741824):((GN u (20:UInt64)).bind fun x155=>
  (Cg (decide (x155.2=0)) ((L8 (IntKind.i64.wrap (x155.1.toNat:Int))).bind fun x162=>some (!x162))).bind fun x164=>
  if x164=true then some ((6:Int),(⟨5, .nil,CW,zK,IntKind.i64.wrap (x155.1.toNat:Int)⟩:Al))else some (x155.2,⟨5, .nil,CW,zK,IntKind.i64.wrap (x155.1.toNat:Int)⟩))=some ((OX u).2,⟨5, .nil,CW,zK,(OX u).1⟩):=by
 have hle:=Vq u 20
 rw[Ol u _ hl,Option.bind_some]
 unfold Xe OX
 rw[show(20:UInt64).toNat=20 from rfl]
 dsimp only
 rw[eF (by omega),Bu (by omega),nX]
 by_cases h0:(Dn u 20).2=0
 ·rw[decide_eq_true h0]
  by_cases h1:(Dn u 20).1=0
  ·rw[if_pos ⟨h0,h1⟩,h1];rfl
  ·rw[if_neg (fun h=>h1 h.2),decide_eq_true (by omega:(1:Int)≤((Dn u 20).1:Int)),decide_eq_true (by omega:((Dn u 20).1:Int)≤20)];rfl
 ·rw[decide_eq_false h0,if_neg (fun h=>h0 h.1)];rfl
theorem kJ(s:AH)(hl:s.length≤100000)(hk:DY ((AL 32 s).getD 0 [])=5):CB s=some (ET s):=by
 obtain⟨p,r,e⟩:=List.exists_cons_of_ne_nil (CD (c:=32) s)
 have hlen:(AL 32 s).length<1073741825:=by
  have h1:=FT (c:=32) s
  have h2:=List.countP_le_length (p:=fun x=>x==(32:UInt8)) (l:=s)
  omega
 have hsub: ∀x∈AL 32 s,x.length<1073741824:=fun x hx=>by have:=DX hx;omega
 unfold ET
 rw[e]at hk hlen hsub ⊢
 have hk':DY p=5:=hk
 unfold CB
 refine(HE s (by omega) e rfl (Fm p)).trans ?_
 dsimp only
 rw[hk,hk']
 rw[if_neg (show¬((5:Int)=0) by decide)]
 have hc:=Qk (n:=1) hlen (by simp)
 by_cases h2:(p::r).length=2
 ·have hb:=hc.trans (show(!decide ((p::r).length=1+1))=false by rw[decide_eq_true h2];rfl)
  refine(congrArg (fun b:Bool=>if b=true then some (MK,(5:Int))else _) hb).trans ?_
  rw[if_pos (show(p::r).length=KP 5 from h2)]
  match r,h2 with
  |[u],_=>
   refine(congrArg (fun x:Option (Int×Al)=>x.bind _) (sP u (hsub u (by simp)))).trans ?_
   show(if(!decide ((OX u).2=0))=true then _ else _)=some (Qz (OX u).2 MK (⟨5, .nil,CW,zK,(OX u).1⟩,0))
   unfold Qz
   by_cases h0:(OX u).2=0
   ·rw[if_neg (by rw[decide_eq_true h0];decide)]
    exact(congrArg some (if_pos h0)).symm
   ·rw[if_pos (by rw[decide_eq_false h0];rfl)]
    exact(congrArg some (if_neg h0)).symm
 ·have hb:=hc.trans (show(!decide ((p::r).length=1+1))=true by rw[decide_eq_false h2];rfl)
  refine(congrArg (fun b:Bool=>if b=true then some (MK,(5:Int))else _) hb).trans ?_
  rw[if_neg (show¬(p::r).length=KP 5 from h2)]
  rfl
theorem U3(s:AH)(hl:s.length≤100000):CB s=some (ET s):=by
 have hk: ∀w,DY w=1∨DY w=2∨DY w=3∨DY w=4∨DY w=5∨DY w=6∨DY w=0:=fun w=>by
  unfold DY
  repeat' split
  all_goals simp
 rcases hk ((AL 32 s).getD 0 [])with h|h|h|h|h|h|h
 ·exact qL s hl h
 ·exact qJ s hl h
 ·exact dY s hl h
 ·exact kI s hl h
 ·exact kJ s hl h
 ·exact qK s hl h
 ·exact kH s hl h
end Go.Proofs.YtobejhpigbllpaaGreatDoor.Am
namespace Go.Proofs.YtobejhpigbllpaaGreatDoor.Am
theorem iS{s:AH}(h:(Lm s).2=0):In (Lm s).1=true:=by
 unfold Lm at h ⊢
 by_cases h1:(58:UInt8)∈s
 ·rw[if_pos h1]at h ⊢
  cases hc:bX s with
  |none=>rw[hc]at h;cases h
  |some l=>rfl
 ·rw[if_neg h1]at h ⊢
  by_cases h2:(Du s).2=0
  ·rw[if_pos h2]
   have hlen:=PY s
   unfold In
   rw[decide_eq_true_eq]
   right
   refine⟨rfl,?_⟩
   show(Ve ((Du s).1++List.replicate 12 0)).l.drop 4=_
   unfold Ve
   rw[dif_pos (by simp[hlen])]
   show((Du s).1++List.replicate 12 0).drop 4=_
   rw[←hlen,List.drop_left]
  ·rw[if_neg h2]at h;exact absurd h h2
theorem Ua{s:AH}(h:(G0 s).2=0):JV (G0 s).1=true:=by
 unfold G0 at h ⊢
 cases hh:WG s with
 |none=>rw[hh]at h;cases h
 |some p=>
  obtain⟨a,b⟩:=p
  rw[hh]at h
  dsimp only at h ⊢
  by_cases h1:(Lm a).2=0
  ·rw[if_pos h1]at h ⊢
   by_cases h2:(Dn b 65535).2=0
   ·rw[if_pos h2]at h ⊢
    by_cases h3:(Dn b 65535).1=0
    ·rw[if_pos h3]at h;cases h
    ·rw[if_neg h3]
     have hle:=Vq b 65535
     unfold JV
     rw[iS h1,decide_eq_true (show(1:Int)≤((Dn b 65535).1:Int) by omega),decide_eq_true (show((Dn b 65535).1:Int)≤65535 by omega)]
     rfl
   ·rw[if_neg h2]at h;exact absurd h h2
  ·rw[if_neg h1]at h;exact absurd h h1
theorem jL{s:AH}(h:(OX s).2=0):1≤(OX s).1∧(OX s).1≤20:=by
 have hle:=Vq s 20
 unfold OX at h ⊢
 dsimp only at h ⊢
 by_cases h1:(Dn s 20).2=0∧(Dn s 20).1=0
 ·rw[if_pos h1]at h;cases h
 ·rw[if_neg h1]at h ⊢
  have h:(Dn s 20).2=0:=h
  show(1:Int)≤((Dn s 20).1:Int)∧((Dn s 20).1:Int)≤20
  have: ¬(Dn s 20).1=0:=fun e=>h1 ⟨h,e⟩
  omega
theorem Jl{x:Int}{e:Al}{f:Al×Int}(h:(Qz x e f).2=0):x=0∧Qz x e f=f:=by
 unfold Qz at h ⊢
 by_cases hx:x=0
 ·exact⟨hx,if_pos hx⟩
 ·rw[if_neg hx]at h;exact absurd h hx
theorem aD{s:AH}(h:(ET s).2=0):cV (ET s).1=true:=by
 unfold ET at h ⊢
 dsimp only at h ⊢
 by_cases h0:DY ((AL 32 s).getD 0 [])=0
 ·rw[if_pos h0]at h;cases h
 ·rw[if_neg h0]at h ⊢
  by_cases hc:(AL 32 s).length=KP (DY ((AL 32 s).getD 0 []))
  ·rw[if_pos hc]at h ⊢
   generalize AL 32 s=P at*
   generalize DY (P.getD 0 [])=k at*
   unfold LU at h ⊢
   by_cases k14:k=1∨k=4
   ·rw[if_pos k14]at h ⊢
    obtain⟨_,e⟩:=Jl h
    rw[e]
    unfold cV
    rw[if_pos k14]
    simp
   ·rw[if_neg k14]at h ⊢
    by_cases k2:k=2
    ·rw[if_pos k2]at h ⊢
     obtain⟨a1,e1⟩:=Jl h
     rw[e1]at h ⊢
     obtain⟨_,e2⟩:=Jl h
     rw[e2]at h ⊢
     obtain⟨_,e3⟩:=Jl h
     rw[e3]
     have hr:=Ua a1;revert hr;generalize (G0 (P.getD 1 [])).1=t;intro hr;simp[cV,hr]
    ·rw[if_neg k2]at h ⊢
     by_cases k3:k=3
     ·rw[if_pos k3]at h ⊢
      obtain⟨_,e1⟩:=Jl h
      rw[e1]at h ⊢
      obtain⟨_,e2⟩:=Jl h
      rw[e2]
      simp[cV]
     ·rw[if_neg k3]at h ⊢
      by_cases k5:k=5
      ·rw[if_pos k5]at h ⊢
       obtain⟨a1,e1⟩:=Jl h
       rw[e1]
       have hr:=jL a1;revert hr;generalize (OX (P.getD 1 [])).1=w;intro hr;simp[cV,hr,nil_l]
      ·rw[if_neg k5]at h ⊢
       obtain⟨a1,e1⟩:=Jl h
       rw[e1]at h ⊢
       obtain⟨_,e2⟩:=Jl h
       rw[e2]
       have hr:=Ua a1;revert hr;generalize (G0 (P.getD 1 [])).1=t;intro hr;simp[cV,hr]
  ·rw[if_neg hc]at h;cases h
end Go.Proofs.YtobejhpigbllpaaGreatDoor.Am
namespace Go.Proofs.YtobejhpigbllpaaGreatDoor.Am
theorem YN(s:AH)(hl:s.length<1073741824):L9 s=some (TS s):=by
 unfold L9 TS Du
 rw[Hf s 46 hl,Option.bind_some]
 by_cases h4:(AL 46 s).length=4
 ·rw[if_pos h4]
  refine Eq.trans (if_neg (by simp[h4])) ?_
  refine(YO (AL 46 s) h4 ?_ ?_).trans ?_
  ·intro i A x hi hx
   have hxl:x.length<1073741824:=by
    have:=DX (List.mem_of_getElem? hx);omega
   refine Eq.trans (if_pos (by rw[decide_eq_true_eq];dsimp only;omega)) ?_
   dsimp only
   rw[BF,EI,hx,Option.bind_some,Wa x 255 hxl,Option.bind_some]
   by_cases hd:(Dn x 255).2=0
   ·rw[if_neg (by rw[Qh,hd];decide),if_pos hd,E4 hi,Option.bind_some,if_pos hi,Option.bind_some,eD x hd,show(i:Int)+1=((i+1:Nat):Int) by omega,Bu (by omega)]
   ·rw[if_pos (by rw[Qh];simp[hd]),if_neg hd]
    rfl
  ·intro A
   rfl
  ·by_cases hb:Mk (AL 46 s)=0
   ·rw[if_pos hb,if_pos hb]
   ·rw[if_neg hb,if_neg hb];rfl
 ·rw[if_neg h4]
  refine Eq.trans (if_pos (by simp only[Bool.not_eq_true',decide_eq_false_iff_not];intro e;exact h4 (Int.ofNat.inj e))) rfl
theorem WJ: ∀{s a b:AH},Ip s=some (a,b)→s=a++58::58::b
 |[],_,_,h=>by simp[Ip]at h
 |[_],_,_,h=>by simp[Ip]at h
 |x::y::r,a,b,h=>by
  rw[Ip]at h
  split at h
  ·rename_i hc
   obtain⟨rfl,rfl⟩:=hc
   cases h;rfl
  ·obtain⟨q,hq,e⟩:=Option.map_eq_some_iff.1 h
   cases e
   have:=WJ hq
   rw[this];rfl
def gA(s:AH):Option Nat:=(Ip s).map fun p=>p.1.length
theorem wI(a b:UInt8)(r:AH):gA (a::b::r)=if a=58∧b=58 then some 0 else(gA (b::r)).map (· +1):=by
 unfold gA
 rw[Ip]
 split
 ·rfl
 ·cases Ip (b::r)<;>rfl
theorem dV(s:AH)(hl:s.length<4611686018427387904):Vk s=some (vI (gA s)):=by
 unfold Vk
 have key: ∀k i:Nat,s.length=i+k→iter (fun(s1:Int)=>
   let x5:=decide (IntKind.i64.wrap (s1+1)<(s.length:Int))
   if x5=true then
   (DC s s1).bind fun x6=>
   let x7:=decide ((x6.toNat:Int)=((58:UInt8).toNat:Int))
   (Cg x7 ((DC s (IntKind.i64.wrap (s1+1))).bind fun x9=>
   let x10:=decide ((x9.toNat:Int)=((58:UInt8).toNat:Int))
   some x10)).bind fun x11=>
   if x11=true then
   (some s1).map fun r=> .inr (.inr r)
   else
   some (.inl (IntKind.i64.wrap (s1+1)))
   else
   some (.inr (.inl ()))) (i:Int)=some (match gA (s.drop i)with|some n=>(Sum.inr ((i+n:Nat):Int):Unit⊕Int)|none=> .inl ()):=by
  intro k
  induction k with
  |zero=>
   intro i hk
   rw[List.drop_of_length_le (by omega)]
   refine Bs ?_
   dsimp only
   rw[show(i:Int)+1=((i+1:Nat):Int) by omega,Bu (by omega),if_neg (by rw[decide_eq_true_eq];omega)]
   rfl
  |succ k ih=>
   intro i hk
   have hi:i<s.length:=by omega
   by_cases h2:i+1<s.length
   ·rw[List.drop_eq_getElem_cons hi,List.drop_eq_getElem_cons h2,wI]
    have ih':=ih (i+1) (by omega)
    rw[List.drop_eq_getElem_cons h2]at ih'
    have c1:decide ((s[i].toNat:Int)=((58:UInt8).toNat:Int))=decide (s[i]=58):=decide_eq_decide.2 ⟨fun e=>UInt8.toNat_inj.1 (Int.ofNat.inj e),fun e=>by rw[e]⟩
    have c2:decide ((s[i+1].toNat:Int)=((58:UInt8).toNat:Int))=decide (s[i+1]=58):=decide_eq_decide.2 ⟨fun e=>UInt8.toNat_inj.1 (Int.ofNat.inj e),fun e=>by rw[e]⟩
    by_cases hc:s[i]=58∧s[i+1]=58
    ·rw[if_pos hc]
     refine Bs ?_
     dsimp only
     rw[show(i:Int)+1=((i+1:Nat):Int) by omega,Bu (by omega),if_pos (by rw[decide_eq_true_eq];omega),BF,List.getElem?_eq_getElem hi,Option.bind_some,BF,List.getElem?_eq_getElem h2,Option.bind_some,c1,c2,decide_eq_true hc.1,decide_eq_true hc.2]
     rfl
    ·rw[if_neg hc,BZ (s':=((i+1:Nat):Int)),ih']
     ·cases gA (s[i+1]::s.drop (i+1+1))with
      |none=>rfl
      |some n=>show some (Sum.inr _)=some (Sum.inr _);rw[show i+1+n=i+(n+1) by omega]
     ·dsimp only
      rw[show(i:Int)+1=((i+1:Nat):Int) by omega,Bu (by omega),if_pos (by rw[decide_eq_true_eq];omega),BF,List.getElem?_eq_getElem hi,Option.bind_some,BF,List.getElem?_eq_getElem h2,Option.bind_some,c1,c2]
      by_cases ha:s[i]=58
      ·rw[decide_eq_true ha,decide_eq_false (fun hb=>hc ⟨ha,hb⟩)];rfl
      ·rw[decide_eq_false ha];rfl
   ·rw[List.drop_eq_getElem_cons hi,List.drop_of_length_le (l:=s) (i:=i+1) (by omega)]
    refine Bs ?_
    dsimp only
    rw[show(i:Int)+1=((i+1:Nat):Int) by omega,Bu (by omega),if_neg (by rw[decide_eq_true_eq];omega)]
    rfl
 refine(congrArg (fun x:Option (Unit⊕Int)=>x.bind _) (key s.length 0 (by omega))).trans ?_
 rw[List.drop_zero]
 cases gA s with
 |none=>rfl
 |some n=>show some _=some _;rw[Nat.zero_add];rfl
def cI(l:List Nat):List Int:=l.map fun(n:Nat)=>(Nat.cast n:Int)
theorem Kg(l:List Nat):(cI l).length=l.length:=by simp[cI]
theorem cH{l m:List Int}(hm:m≠[])(h:(l.length+m.length)*8≤Di):Ng 8 (NF l) m=some (NF (l++m)):=by
 unfold Ng
 rw[LZ,if_pos h]
 obtain⟨x,r,rfl⟩:=List.exists_cons_of_ne_nil hm
 cases l with
 |nil=>rfl
 |cons y l=>rfl
theorem dA(x y:UInt8):IntKind.i64.wrap (IntKind.i64.wrap (256*IntKind.i64.wrap (x.toNat:Int))+IntKind.i64.wrap (y.toNat:Int))=((256*x.toNat+y.toNat:Nat):Int):=by
 have hx:=x.toNat_lt
 have hy:=y.toNat_lt
 rw[Bu (by omega),Bu (by omega),show(256:Int)*(x.toNat:Int)=((256*x.toNat:Nat):Int) by omega,Bu (by omega),show((256*x.toNat:Nat):Int)+(y.toNat:Int)=((256*x.toNat+y.toNat:Nat):Int) by omega,Bu (by omega)]
noncomputable def YH(P:GS AH)(last:Bool)(s3:Int×(GS Int)):Option ((Int×(GS Int))⊕((GS Int)⊕((GS Int)×Bool))):=
 if(decide (s3.1<(P.l.length:Int)))=true then
 (DC P.l s3.1).bind fun x7=>
 (Iu x7).bind fun x9=>
 if(decide (0≤x9))=true then
 (Ng 8 s3.2 [x9]).bind fun x12=>
 some (.inl (IntKind.i64.wrap (s3.1+1),x12))
 else
 (DC P.l s3.1).bind fun x14=>
 (L9 x14).bind fun x16=>
 (JJ (!decide (x16.2=0)) (some (!last))).bind fun x23=>
 (JJ x23 (let x26:=decide (s3.1<IntKind.i64.wrap ((P.l.length:Int)-1))
 some x26)).bind fun x27=>
 if x27=true then
 (some (.nil,false)).map fun r=> .inr (.inr r)
 else
 (C2 4 0).bind fun x28=>
 (x16.1.l[x28]?).bind fun x29=>
 let x31:=IntKind.i64.wrap (256*IntKind.i64.wrap (x29.toNat:Int))
 (C2 4 1).bind fun x32=>
 (x16.1.l[x32]?).bind fun x33=>
 let x35:=IntKind.i64.wrap (x31+IntKind.i64.wrap (x33.toNat:Int))
 (C2 4 2).bind fun x36=>
 (x16.1.l[x36]?).bind fun x37=>
 let x39:=IntKind.i64.wrap (256*IntKind.i64.wrap (x37.toNat:Int))
 (C2 4 3).bind fun x40=>
 (x16.1.l[x40]?).bind fun x41=>
 let x43:=IntKind.i64.wrap (x39+IntKind.i64.wrap (x41.toNat:Int))
 (Ng 8 s3.2 [x35,x43]).bind fun x45=>
 some (.inl (IntKind.i64.wrap (s3.1+1),x45))
 else
 some (.inr (.inl s3.2))
def q0(x:AH)(i:Nat):UInt8:=(Du x).1.getD i 0
theorem AaB{i:Nat}(h:i<4){j:Int}(hj:j=(i:Int)):C2 4 j=some i:=by subst hj;exact E4 h
theorem qV(P:List AH)(last:Bool)(hP:P.length<1073741825)(hx: ∀x∈P,x.length<1073741824): ∀(k i:Nat) (pre:List Nat),P.length=i+k→pre.length≤i→
  iter (YH (.mk P) last) ((i:Int),NF (cI pre))=some (match DI last (P.drop i)with|some m=> .inl (NF (cI (pre++m)))|none=> .inr (.nil,false)):=by
 intro k
 induction k with
 |zero=>
  intro i pre hk hp
  rw[List.drop_of_length_le (by omega)]
  refine(Bs (b:=(Sum.inl (NF (cI pre)):(GS Int)⊕((GS Int)×Bool))) ?_).trans ?_
  ·unfold YH
   dsimp only
   rw[if_neg (by rw[decide_eq_true_eq,EI];omega)]
  ·show _=some (Sum.inl (NF (cI (pre++[]))))
   rw[List.append_nil]
 |succ k ih=>
  intro i pre hk hp
  have hi:i<P.length:=by omega
  have hxl:=hx P[i] (List.getElem_mem hi)
  have hw:IntKind.i64.wrap ((i:Int)+1)=((i+1:Nat):Int):=by rw[show(i:Int)+1=((i+1:Nat):Int) by omega,Bu (by omega)]
  rw[List.drop_eq_getElem_cons hi,DI]
  cases hg:VY P[i]with
  |some n=>
   dsimp only
   rw[BZ (s':=(((i+1:Nat):Int),NF (cI (pre++[n])))),ih (i+1) (pre++[n]) (by omega) (by simp;omega)]
   ·cases DI last (P.drop (i+1))with
    |none=>rfl
    |some m=>simp only[Option.map_some,List.append_assoc,List.singleton_append]
   ·unfold YH
    dsimp only
    rw[if_pos (by rw[decide_eq_true_eq,EI];omega),EI,BF,List.getElem?_eq_getElem hi,Option.bind_some,QH _ hxl,hg,Option.bind_some,if_pos (by rw[decide_eq_true_eq];show(0:Int)≤(n:Int);omega)]
    rw[show vI (some n)=(n:Int)from rfl,cH (by simp) (by rw[Kg];simp[Di];omega),Option.bind_some,hw]
    unfold cI
    rw[List.map_append];rfl
  |none=>
   dsimp only
   have hcond:(decide ((i:Int)<IntKind.i64.wrap ((P.length:Int)-1)))=decide (i+1<P.length):=by
    rw[show(P.length:Int)-1=((P.length-1:Nat):Int) by omega,Bu (by omega)]
    exact decide_eq_decide.2 (by omega)
   have hdrop:P.drop (i+1)=[]↔ ¬(i+1<P.length):=by
    constructor
    ·intro h;have:=congrArg List.length h;simp at this;omega
    ·intro h;exact List.drop_of_length_le (by omega)
   have start:YH (.mk P) last ((i:Int),NF (cI pre))=(JJ (!decide ((Du P[i]).2=0)) (some (!last))).bind fun x23=>(JJ x23 (some (decide (i+1<P.length)))).bind fun x27=>if x27=true then some (.inr (.inr (.nil,false)))else
     some (.inl (((i+1:Nat):Int),NF (cI (pre++[256*(q0 P[i] 0).toNat+(q0 P[i] 1).toNat,256*(q0 P[i] 2).toNat+(q0 P[i] 3).toNat])))):=by
    unfold YH
    dsimp only
    rw[if_pos (by rw[decide_eq_true_eq,EI];omega),EI,BF,List.getElem?_eq_getElem hi,Option.bind_some,QH _ hxl,hg,Option.bind_some,if_neg (by decide),Option.bind_some,YN _ hxl,Option.bind_some]
    unfold TS
    dsimp only
    rw[hcond,AaB (i:=0) (j:=(0:Int)) (by decide) rfl,Option.bind_some,MJ _ 0 (by decide),Option.bind_some,AaB (i:=1) (j:=(1:Int)) (by decide) rfl,Option.bind_some,MJ _ 1 (by decide),Option.bind_some,AaB (i:=2) (j:=(2:Int)) (by decide) rfl,Option.bind_some,MJ _ 2 (by decide),Option.bind_some,AaB (i:=3) (j:=(3:Int)) (by decide) rfl,Option.bind_some,MJ _ 3 (by decide),Option.bind_some,
     dA,dA,cH (by simp) (by rw[Kg];simp[Di];omega),Option.bind_some,hw]
    unfold cI
    rw[List.map_append]
    rfl
   by_cases hc:P.drop (i+1)=[]∧last=true∧(Du P[i]).2=0
   ·rw[if_pos hc]
    obtain⟨c1,c2,c3⟩:=hc
    have c1':=hdrop.1 c1
    subst c2
    rw[decide_eq_true c3,decide_eq_false c1']at start
    rw[BZ start,Bs (b:=Sum.inl (NF (cI (pre++[256*(q0 P[i] 0).toNat+(q0 P[i] 1).toNat,256*(q0 P[i] 2).toNat+(q0 P[i] 3).toNat]))))]
    ·rfl
    ·unfold YH
     dsimp only
     rw[if_neg (by rw[decide_eq_true_eq,EI];omega)]
   ·rw[if_neg hc]
    refine Bs (start.trans ?_)
    by_cases c3:(Du P[i]).2=0
    ·rw[decide_eq_true c3]
     cases last with
     |false=>rfl
     |true=>
      have:i+1<P.length:=by
       rcases Nat.lt_or_ge (i+1) P.length with h|h
       ·exact h
       ·exact absurd ⟨hdrop.2 (by omega),rfl,c3⟩ hc
      rw[decide_eq_true this];rfl
    ·rw[decide_eq_false c3];rfl
theorem NR(s:AH)(last:Bool)(hl:s.length<1073741824):Nr s last=some (match Jm last s with|some l=>(NF (cI l),true)|none=>(.nil,false)):=by
 unfold Nr Jm
 by_cases h0:s=[]
 ·rw[if_pos (decide_eq_true h0),if_pos h0];rfl
 ·rw[if_neg (by rw[decide_eq_true_eq];exact h0),if_neg h0,Hf s 58 hl,Option.bind_some]
  have hlen:(AL 58 s).length<1073741825:=by
   have h1:=FT (c:=58) s
   have h2:=List.countP_le_length (p:=fun x=>x==(58:UInt8)) (l:=s)
   omega
  refine(congrArg (fun x:Option ((GS Int)⊕((GS Int)×Bool))=>x.bind _) (qV (AL 58 s) last hlen (fun x hx=>by have:=DX hx;omega) (AL 58 s).length 0 [] (by omega) (by simp))).trans ?_
  rw[List.drop_zero]
  cases DI last (AL 58 s)<;>rfl
end Go.Proofs.YtobejhpigbllpaaGreatDoor.Am
namespace Go.Proofs.YtobejhpigbllpaaGreatDoor.Am
theorem RW(k:Nat):HF (k:Int)=UInt8.ofNat k:=by
 unfold HF
 apply UInt8.toNat_inj.1
 rw[show((k:Int)%256).toNat=k%256 by omega,UInt8.toNat_ofNat',UInt8.toNat_ofNat'];omega
theorem rdG_lt{s:AH}{n:Nat}(h:VY s=some n):n<65536:=by
 unfold VY at h
 split at h
 ·rename_i hl
  have h1:=nJ s 0 n h
  have h2:16^s.length≤16^4:=Nat.pow_le_pow_right (by decide) hl.2
  have h3:(16:Nat)^4=65536:=by decide
  omega
 ·cases h
theorem nV(x y:UInt8):256*x.toNat+y.toNat<65536:=by
 have:=x.toNat_lt
 have:=y.toNat_lt
 omega
theorem oH(last:Bool): ∀{P:List AH} {m:List Nat},DI last P=some m→ ∀n∈m,n<65536
 |[],m,h,n,hn=>by cases h;cases hn
 |x::r,m,h,n,hn=>by
  rw[DI]at h
  cases hx:VY x with
  |some k=>
   rw[hx]at h
   obtain⟨l,hl,rfl⟩:=Option.map_eq_some_iff.1 h
   rcases List.mem_cons.1 hn with rfl|hn
   ·exact rdG_lt hx
   ·exact oH last hl n hn
  |none=>
   rw[hx]at h
   dsimp only at h
   split at h
   ·cases h
    rcases List.mem_cons.1 hn with rfl|hn
    ·exact nV _ _
    ·rw[List.mem_singleton.1 hn];exact nV _ _
   ·cases h
theorem Wq{last:Bool}{s:AH}{m:List Nat}(h:Jm last s=some m): ∀n∈m,n<65536:=by
 unfold Jm at h
 split at h
 ·cases h;intro n hn;cases hn
 ·exact oH last h
theorem fU(last:Bool): ∀{P:List AH} {m:List Nat},DI last P=some m→m.length≤P.length+1
 |[],m,h=>by cases h;simp
 |x::r,m,h=>by
  rw[DI]at h
  cases hx:VY x with
  |some k=>
   rw[hx]at h
   obtain⟨l,hl,rfl⟩:=Option.map_eq_some_iff.1 h
   have:=fU last hl
   simp;omega
  |none=>
   rw[hx]at h
   dsimp only at h
   split at h
   ·cases h;simp
   ·cases h
theorem Zc{last:Bool}{s:AH}{m:List Nat}(h:Jm last s=some m):m.length≤s.length+2:=by
 unfold Jm at h
 split at h
 ·cases h;simp
 ·have h1:=fU last h
  have h2:=FT (c:=58) s
  have h3:=List.countP_le_length (p:=fun x=>x==(58:UInt8)) (l:=s)
  omega
theorem Zi{L:List Nat}(hL:L.length=8){β:Type}{F:Int×(Ar UInt8 16)→Option ((Int×(Ar UInt8 16))⊕((Ar UInt8 16)⊕β))}
  (h1: ∀(i:Nat) (A:Ar UInt8 16) (x:Nat),i<8→L[i]? =some x→F ((i:Int),A)=some (.inl (((i+1:Nat):Int),(A.set (2*i) (UInt8.ofNat (x/256))).set (2*i+1) (UInt8.ofNat (x%256)))))
  (h2: ∀A,F ((8:Int),A)=some (.inr (.inl A))):iter F (0,(T.arr 16 T.u8).z)=some (.inl (Ve (TF L))):=by
 rw[←Uf hL]
 refine qS 8 (fun i=>((i:Int),WN L i)) rfl (fun i hi=> ?_) (h2 _)
 have e:L[i]? =some (L.getD i 0):=by rw[List.getElem?_eq_getElem (by omega),List.getD_eq_getElem?_getD,List.getElem?_eq_getElem (by omega)];rfl
 exact h1 i (WN L i) _ hi e
theorem td256{n:Nat}(h:n<65536):(if 256=0 then none else some (IntKind.i64.wrap (Int.tdiv (n:Int) 256)))=some ((n/256:Nat):Int):=by
 rw[if_neg (by decide),show(256:Int)=((256:Nat):Int)from rfl,←Int.ofNat_tdiv,Bu (by omega)]
theorem tm256(n:Nat):(if 256=0 then none else some (Int.tmod (n:Int) 256))=some ((n%256:Nat):Int):=by
 rw[if_neg (by decide)];rfl
theorem wd2{i:Nat}(h:i<8):IntKind.i64.wrap (2*(i:Int))=((2*i:Nat):Int):=by
 rw[show(2:Int)*(i:Int)=((2*i:Nat):Int) by omega,Bu (by omega)]
theorem wd21{i:Nat}(h:i<8):IntKind.i64.wrap (((2*i:Nat):Int)+1)=((2*i+1:Nat):Int):=by
 rw[show((2*i:Nat):Int)+1=((2*i+1:Nat):Int) by omega,Bu (by omega)]
theorem wi1{i:Nat}(h:i<1000000000):IntKind.i64.wrap ((i:Int)+1)=((i+1:Nat):Int):=by
 rw[show(i:Int)+1=((i+1:Nat):Int) by omega,Bu (by omega)]
theorem cD{L:List Nat}{i x:Nat}(h:L[i]? =some x):(cI L)[i]? =some (x:Int):=by
 unfold cI
 rw[List.getElem?_map,h];rfl
def colP(s:AH):Ar UInt8 16×Bool:=match bX s with|some l=>(Ve l,true)|none=>((T.arr 16 T.u8).z,false)
theorem qC(s:AH)(hl:s.length<1073741824):PV s=some (colP s):=by
 unfold PV colP bX
 rw[dV s (by omega),Option.bind_some]
 unfold gA
 cases hg:Ip s with
 |none=>
  rw[if_pos (by decide),NR s true hl,Option.bind_some]
  dsimp only
  cases h:Jm true s with
  |none=>rfl
  |some L=>
   have hlt:=Wq h
   dsimp only
   rw[LZ,Kg,Option.bind_some]
   by_cases h8:L.length=8
   ·rw[if_pos h8,decide_eq_true (by omega:((L.length:Int)=8))]
    refine(congrArg (fun x:Option (Ar UInt8 16⊕_)=>x.bind _) (Zi h8 (fun i A x hi hx=> ?_) (fun A=>rfl))).trans rfl
    have hx6:=hlt x (List.mem_of_getElem? hx)
    dsimp only
    rw[if_pos (by rw[decide_eq_true_eq];omega),BF,cD hx,Option.bind_some,td256 hx6,Option.bind_some,wd2 hi,E4 (by omega),Option.bind_some,if_pos (by omega),Option.bind_some,Option.bind_some,tm256,Option.bind_some,wd21 hi,E4 (by omega),Option.bind_some,if_pos (by omega),Option.bind_some,wi1 (by omega),RW,RW]
   ·rw[if_neg h8,decide_eq_false (by omega: ¬((L.length:Int)=8))];rfl
 |some q=>
  obtain⟨a,b⟩:=q
  have hs:=WJ hg
  have hlen:s.length=a.length+(b.length+2):=by rw[hs];simp
  have e1:H8 s none (some (a.length:Int))=some a:=by rw[PP (by omega),hs,List.take_left]
  have e2:H8 s (some (IntKind.i64.wrap ((a.length:Int)+2))) none=some b:=by
   rw[show(a.length:Int)+2=((a.length+2:Nat):Int) by omega,Bu (by omega),Hc (by omega),hs,←List.drop_drop,List.drop_left];rfl
  show(if(decide ((a.length:Int)<0))=true then _ else _)=_
  rw[if_neg (by rw[decide_eq_true_eq];omega)]
  refine(congrArg (fun x:Option AH=>x.bind _) e1).trans ?_
  rw[Option.bind_some,NR a false (by omega),Option.bind_some]
  refine(congrArg (fun x:Option AH=>x.bind _) e2).trans ?_
  rw[Option.bind_some,NR b true (by omega),Option.bind_some]
  dsimp only
  cases ha:Jm false a with
  |none=>rfl
  |some l=>
   cases hb:Jm true b with
   |none=>rfl
   |some m=>
    have la:=Wq ha
    have lb:=Wq hb
    dsimp only
    rw[Option.bind_some,Option.bind_some]
    rw[LZ,LZ,Kg,Kg]
    by_cases h7:l.length+m.length≤7
    ·have hw:IntKind.i64.wrap ((l.length:Int)+(m.length:Int))=((l.length+m.length:Nat):Int):=by
      rw[show(l.length:Int)+(m.length:Int)=((l.length+m.length:Nat):Int) by omega,Bu (by omega)]
     have hd:decide (7<IntKind.i64.wrap ((l.length:Int)+(m.length:Int)))=false:=by rw[hw];exact decide_eq_false (by omega)
     rw[if_pos h7]
     rw[show(JJ (!true) (some (!true)))=some false from rfl,Option.bind_some,hd,show JJ false (some false)=some false from rfl,Option.bind_some,if_neg (by decide)]
     have hz:(8:Nat)-l.length-m.length=(8-l.length-m.length-1)+1:=by omega
     have hL8:(l++List.replicate (8-l.length-m.length) 0++m).length=8:=by simp;omega
     have hlt: ∀n∈l++List.replicate (8-l.length-m.length) 0++m,n<65536:=by
      intro n hn
      rcases List.mem_append.1 hn with hn|hn
      ·rcases List.mem_append.1 hn with hn|hn
       ·exact la n hn
       ·rw[(List.mem_replicate.1 hn).2];decide
      ·exact lb n hn
     refine(congrArg (fun x:Option (GS Int⊕(Ar UInt8 16×Bool))=>x.bind _) (qS (r:=Sum.inl (NF (cI l))) l.length (fun i=>((i:Int),NF (cI (l.take i)))) rfl (fun i hi=> ?_) ?_)).trans ?_
     ·dsimp only
      rw[if_pos (by rw[decide_eq_true_eq];omega),BF,cD (List.getElem?_eq_getElem hi),Option.bind_some,cH (by simp) (by rw[Kg,List.length_take];simp[Di];omega),Option.bind_some,wi1 (by omega),List.take_succ_eq_append_getElem hi]
      unfold cI
      rw[List.map_append];rfl
     ·dsimp only
      rw[if_neg (by rw[decide_eq_true_eq];omega),List.take_length]
     refine(congrArg (fun x:Option (GS Int⊕(Ar UInt8 16×Bool))=>x.bind _) (qS (s:=NF (cI l)) (r:=Sum.inl (NF (cI (l++List.replicate (8-l.length-m.length) 0)))) (8-l.length-m.length) (fun i=>NF (cI (l++List.replicate i 0))) (by simp) (fun i hi=> ?_) ?_)).trans ?_
     ·rw[LZ,Kg,List.length_append,List.length_replicate,show((l.length+i:Nat):Int)+(m.length:Int)=((l.length+i+m.length:Nat):Int) by omega,Bu (by omega),if_pos (by rw[decide_eq_true_eq];omega),cH (by simp) (by rw[Kg];simp[Di];omega),Option.bind_some,List.replicate_succ',←List.append_assoc]
      unfold cI
      rw[List.map_append (l₂:=[0])];rfl
     ·rw[LZ,Kg,List.length_append,List.length_replicate,show((l.length+(8-l.length-m.length):Nat):Int)+(m.length:Int)=((8:Nat):Int) by omega,Bu (by omega),if_neg (by decide)]
     have happ:Ng 8 (NF (cI (l++List.replicate (8-l.length-m.length) 0))) (cI m)=some (NF (cI (l++List.replicate (8-l.length-m.length) 0++m))):=by
      unfold Ng
      rw[LZ,if_pos (by rw[Kg,Kg];simp[Di];omega)]
      have hne:cI (l++List.replicate (8-l.length-m.length) 0)≠[]:=fun e=>by
       have:=congrArg List.length e
       rw[Kg]at this;simp at this;omega
      have hap:cI (l++List.replicate (8-l.length-m.length) 0++m)=cI (l++List.replicate (8-l.length-m.length) 0)++cI m:=by unfold cI;rw[List.map_append]
      rw[hap]
      generalize cI (l++List.replicate (8-l.length-m.length) 0)=u at hne
      cases u with
      |nil=>exact absurd rfl hne
      |cons y u=>rfl
     refine(congrArg (fun x:Option (GS Int)=>x.bind _) happ).trans ?_
     refine(congrArg (fun x:Option (Ar UInt8 16⊕(Ar UInt8 16×Bool))=>x.bind _) (Zi hL8 (fun i A x hi hx=> ?_) (fun A=>rfl))).trans rfl
     have hx6:=hlt x (List.mem_of_getElem? hx)
     dsimp only
     rw[if_pos (by rw[decide_eq_true_eq];omega),LZ,Kg,hL8,E4 hi,Option.bind_some,cD hx,Option.map_some,Option.bind_some,td256 hx6,Option.bind_some,wd2 hi,E4 (by omega),Option.bind_some,if_pos (by omega),Option.bind_some,wd21 hi,Option.bind_some,cD hx,Option.map_some,Option.bind_some,tm256,Option.bind_some,E4 (by omega),Option.bind_some,if_pos (by omega),Option.bind_some,wi1 (by omega),RW,RW]
    ·rw[if_neg h7]
     have l1:=Zc ha
     have l2:=Zc hb
     rw[show(l.length:Int)+(m.length:Int)=((l.length+m.length:Nat):Int) by omega,Bu (by omega),decide_eq_true (by omega:(7:Int)<((l.length+m.length:Nat):Int)),show(JJ (!true) (some (!true)))=some false from rfl,Option.bind_some,show JJ false (some true)=some true from rfl,Option.bind_some,if_pos rfl]
end Go.Proofs.YtobejhpigbllpaaGreatDoor.Am
namespace Go.Proofs.YtobejhpigbllpaaGreatDoor.Am
theorem Ns(s:AH)(c:UInt8):(1<(AL c s).length)↔c∈s:=by
 rw[FT]
 constructor
 ·intro h
  obtain⟨x,hx,e⟩:=List.countP_pos_iff.1 (show 0<s.countP (fun x=>x==c) by omega)
  rw[←eq_of_beq e];exact hx
 ·intro h
  have:=(List.countP_pos_iff (p:=fun x=>x==c) (l:=s)).2 ⟨c,h,by simp⟩
  omega
def st4(a b c d:UInt8)(i:Nat):Bf:=⟨4,Ve ([a,b,c,d].take i++List.replicate (16-i) 0)⟩
theorem zR(a b c d:UInt8):ZX (GS.mk [a,b,c,d])=some (⟨4,Ve ([a,b,c,d]++List.replicate 12 0)⟩,true):=by
 unfold ZX
 have e:(Cg (!decide (((GS.mk [a,b,c,d]).l.length:Int)=4)) (some (!decide (((GS.mk [a,b,c,d]).l.length:Int)=16))))=some false:=rfl
 rw[e,Option.bind_some,if_neg (by decide)]
 refine(congrArg (fun x:Option (Bf⊕(Bf×Bool))=>x.bind _) (qS (r:=Sum.inl (st4 a b c d 4)) 4 (fun i=>((i:Int),st4 a b c d i)) rfl (fun i hi=> ?_) ?_)).trans rfl
 ·match i,hi with
  |0,_=>rfl
  |1,_=>rfl
  |2,_=>rfl
  |3,_=>rfl
 ·rfl
theorem qB(s:AH)(hl:s.length<1073741824):Nq s=some (Lm s):=by
 unfold Nq Lm
 rw[Hf s 58 hl,Option.bind_some,EI]
 by_cases h:(58:UInt8)∈s
 ·have h1:=(Ns s 58).2 h
  rw[if_pos (by rw[decide_eq_true_eq];omega),if_pos h,qC s hl,Option.bind_some]
  unfold colP
  cases bX s with
  |none=>rfl
  |some l=>rfl
 ·have h1: ¬1<(AL 58 s).length:=fun e=>h ((Ns s 58).1 e)
  rw[if_neg (by rw[decide_eq_true_eq];omega),if_neg h,YN s hl,Option.bind_some]
  unfold TS
  dsimp only
  by_cases hq:(Du s).2=0
  ·rw[if_neg (by simp[hq]),if_pos hq]
   have hlen:=PY s
   generalize (Du s).1=B at hlen
   match B,hlen with
   |[a,b,c,d],_=>exact(congrArg (fun x:Option (Bf×Bool)=>x.bind _) (zR a b c d)).trans rfl
  ·rw[if_pos (by simp[hq]),if_neg hq]
   rfl
theorem dU(s:AH)(hl:s.length<1073741824):RR s=some (match Q8 s with|some (p,q)=>(p,q,true)|none=>([],[],false)):=by
 unfold RR
 have key: ∀k i:Nat,s.length=i+k→iter (fun(s1:Int)=>
   let x5:=decide (IntKind.i64.wrap (s1+1)<(s.length:Int))
   if x5=true then
   (DC s s1).bind fun x6=>
   let x7:=decide ((x6.toNat:Int)=((93:UInt8).toNat:Int))
   (Cg x7 ((DC s (IntKind.i64.wrap (s1+1))).bind fun x9=>
   let x10:=decide ((x9.toNat:Int)=((58:UInt8).toNat:Int))
   some x10)).bind fun x11=>
   if x11=true then
   (H8 s none (some s1)).bind fun x12=>
   (H8 s (some (IntKind.i64.wrap (s1+2))) none).bind fun x14=>
   (some (x12,x14,true)).map fun r=> .inr (.inr r)
   else
   some (.inl (IntKind.i64.wrap (s1+1)))
   else
   some (.inr (.inl ()))) (i:Int)=some (match Q8 (s.drop i)with|some (p,q)=>(Sum.inr (s.take i++p,q,true):Unit⊕(AH×AH×Bool))|none=> .inl ()):=by
  intro k
  induction k with
  |zero=>
   intro i hk
   rw[List.drop_of_length_le (by omega)]
   refine Bs ?_
   dsimp only
   rw[show(i:Int)+1=((i+1:Nat):Int) by omega,Bu (by omega),if_neg (by rw[decide_eq_true_eq];omega)]
   rfl
  |succ k ih=>
   intro i hk
   have hi:i<s.length:=by omega
   by_cases h2:i+1<s.length
   ·have ih':=ih (i+1) (by omega)
    rw[List.drop_eq_getElem_cons hi,List.drop_eq_getElem_cons h2,Q8]
    rw[List.drop_eq_getElem_cons h2]at ih'
    have c1:decide ((s[i].toNat:Int)=((93:UInt8).toNat:Int))=decide (s[i]=93):=decide_eq_decide.2 ⟨fun e=>UInt8.toNat_inj.1 (Int.ofNat.inj e),fun e=>by rw[e]⟩
    have c2:decide ((s[i+1].toNat:Int)=((58:UInt8).toNat:Int))=decide (s[i+1]=58):=decide_eq_decide.2 ⟨fun e=>UInt8.toNat_inj.1 (Int.ofNat.inj e),fun e=>by rw[e]⟩
    by_cases hc:s[i]=93∧s[i+1]=58
    ·rw[if_pos hc]
     refine Bs ?_
     dsimp only
     rw[show(i:Int)+1=((i+1:Nat):Int) by omega,Bu (by omega),if_pos (by rw[decide_eq_true_eq];omega),BF,List.getElem?_eq_getElem hi,Option.bind_some,BF,List.getElem?_eq_getElem h2,Option.bind_some,c1,c2,decide_eq_true hc.1,decide_eq_true hc.2,show(Cg true (some true))=some true from rfl,Option.bind_some,if_pos rfl,PP (by omega),Option.bind_some,show(i:Int)+2=((i+2:Nat):Int) by omega,Bu (by omega),Hc (by omega),Option.bind_some,List.append_nil]
     rfl
    ·rw[if_neg hc,BZ (s':=((i+1:Nat):Int)),ih']
     ·cases Q8 (s[i+1]::s.drop (i+1+1))with
      |none=>rfl
      |some pq=>
       obtain⟨p,q⟩:=pq
       show some (Sum.inr _)=some (Sum.inr _)
       rw[List.take_succ_eq_append_getElem hi,List.append_assoc];rfl
     ·dsimp only
      rw[show(i:Int)+1=((i+1:Nat):Int) by omega,Bu (by omega),if_pos (by rw[decide_eq_true_eq];omega),BF,List.getElem?_eq_getElem hi,Option.bind_some,BF,List.getElem?_eq_getElem h2,Option.bind_some,c1,c2]
      by_cases ha:s[i]=93
      ·rw[decide_eq_true ha,decide_eq_false (fun hb=>hc ⟨ha,hb⟩)];rfl
      ·rw[decide_eq_false ha];rfl
   ·rw[List.drop_eq_getElem_cons hi,List.drop_of_length_le (l:=s) (i:=i+1) (by omega)]
    refine Bs ?_
    dsimp only
    rw[show(i:Int)+1=((i+1:Nat):Int) by omega,Bu (by omega),if_neg (by rw[decide_eq_true_eq];omega)]
    rfl
 refine(congrArg (fun x:Option (Unit⊕(AH×AH×Bool))=>x.bind _) (key s.length 0 (by omega))).trans ?_
 rw[List.drop_zero]
 cases Q8 s with
 |none=>rfl
 |some pq=>rfl
theorem vV(s:AH):((Cg (decide (0<(s.length:Int))) ((DC s 0).bind fun x4=>
  let x5:=decide ((x4.toNat:Int)=((91:UInt8).toNat:Int))
  some x5)))=some (decide (s.head?=some 91)):=by
 cases s with
 |nil=>rfl
 |cons a r=>
  have c1:decide ((a.toNat:Int)=((91:UInt8).toNat:Int))=decide (a=91):=decide_eq_decide.2 ⟨fun e=>UInt8.toNat_inj.1 (Int.ofNat.inj e),fun e=>by rw[e]⟩
  rw[decide_eq_true (by simp only[List.length_cons];omega:(0:Int)<((a::r).length:Int))]
  show some (decide ((a.toNat:Int)=((91:UInt8).toNat:Int)))=_
  rw[c1]
  congr 1
  simp
noncomputable def tR(x6:Bool)(p7:AH×AH×Bool):Option (AI×Int):=
 (JJ (!p7.2.2) ((Gh p7.1 (58:UInt8)).bind fun x10=>
 some (!decide (decide (1<(x10.l.length:Int))=x6)))).bind fun x14=>
 if x14=true then
 some ((⟨Aw.z,0⟩:AI),5)
 else
 (Nq p7.1).bind fun x17=>
 if(!decide (x17.2=0))=true then
 some ((⟨Aw.z,0⟩:AI),x17.2)
 else
 (KD p7.2.1 (65535:UInt64)).bind fun x25=>
 if(!decide (x25.2=0))=true then
 some ((⟨Aw.z,0⟩:AI),x25.2)
 else
 let x31:=decide ((x25.1.toNat:Int)=((0:UInt64).toNat:Int))
 if x31=true then
 some ((⟨Aw.z,0⟩:AI),6)
 else
 let x36:=(⟨x17.1,IntKind.i64.wrap (x25.1.toNat:Int)⟩:AI)
 some (x36,0)
def AaM(o:Option (AH×AH)):AI×Int:=
 match o with
 |none=>(CW,5)
 |some (h,p)=>if(Lm h).2=0 then(if(Dn p 65535).2=0 then(if(Dn p 65535).1=0 then(CW,6)else(⟨(Lm h).1,(Dn p 65535).1⟩,0))else(CW,(Dn p 65535).2))else(CW,(Lm h).2)
theorem YL(x6:Bool)(a b:AH)(ha:a.length<1073741824)(hb:b.length<1073741824):tR x6 (a,b,true)=some (AaM (if decide ((58:UInt8)∈a)=x6 then some (a,b)else none)):=by
 unfold tR
 have hp:decide (1<(((GS.mk (AL 58 a)).l.length:Nat):Int))=decide ((58:UInt8)∈a):=by
  rw[EI]
  exact decide_eq_decide.2 ⟨fun h=>(Ns a 58).1 (by omega),fun h=>by have:=(Ns a 58).2 h;omega⟩
 dsimp only
 rw[Hf a 58 ha,Option.bind_some,hp]
 by_cases h:decide ((58:UInt8)∈a)=x6
 ·rw[if_pos h,decide_eq_true h,show JJ (!true) (some (!true))=some false from rfl,Option.bind_some,if_neg (by decide),qB a ha,Option.bind_some]
  unfold AaM
  dsimp only
  by_cases ha0:(Lm a).2=0
  ·rw[if_neg (by simp[ha0]),if_pos ha0,Wa b _ hb,Option.bind_some]
   unfold Xe
   have em:(65535:UInt64).toNat=65535:=rfl
   rw[em]
   dsimp only
   by_cases hd:(Dn b 65535).2=0
   ·have hbd:(Dn b 65535).1≤65535:=by
     unfold Dn at hd ⊢
     split
     ·simp
     ·split
      ·simp
      ·dsimp only;omega
    rw[if_neg (by simp[hd]),if_pos hd]
    have et:(UInt64.ofNat (Dn b 65535).1).toNat=(Dn b 65535).1:=eF (by omega)
    rw[et]
    by_cases h0:(Dn b 65535).1=0
    ·rw[if_pos (by rw[decide_eq_true_eq,h0];rfl),if_pos h0];rfl
    ·rw[if_neg (by rw[decide_eq_true_eq];intro e;exact h0 (Int.ofNat.inj e)),if_neg h0,Bu (by omega)]
   ·rw[if_pos (by simp[hd]),if_neg hd];rfl
  ·rw[if_pos (by simp[ha0]),if_neg ha0];rfl
 ·rw[if_neg h,decide_eq_false h];rfl
theorem rJ(s:AH):G0 s=AaM (WG s):=by
 unfold G0 AaM
 cases WG s<;>rfl
theorem ZW(s:AH):Np s=((Cg (decide (0<(s.length:Int))) ((DC s 0).bind fun x4=>
  let x5:=decide ((x4.toNat:Int)=((91:UInt8).toNat:Int))
  some x5))).bind fun x6=>(if x6=true then
   (H8 s (some 1) none).bind fun x38=>
   (RR x38).bind fun x39=>
   some (.inl (x39.1,x39.2.1,x39.2.2))
   else
   (Gh s (58:UInt8)).bind fun x43=>
   (DC x43.l 0).bind fun x46=>
   if(decide (1<(x43.l.length:Int)))=true then
   (DC x43.l 0).bind fun x48=>
   (H8 s (some (IntKind.i64.wrap ((x48.length:Int)+1))) none).bind fun x52=>
   some (.inl (x46,x52,decide (1<(x43.l.length:Int))))
   else
   some (.inl (x46,[],decide (1<(x43.l.length:Int)))):Option ((AH×AH×Bool)⊕(AI×Int))).bind (Sum.elim (tR x6) some):=rfl
theorem qA(s:AH)(hl:s.length<1073741824):Np s=some (G0 s):=by
 rw[ZW,vV,Option.bind_some,rJ]
 unfold WG
 by_cases h:s.head?=some 91
 ·have hn:1≤s.length:=by cases s with
   |nil=>simp at h
   |cons a r=>simp only[List.length_cons];omega
  rw[decide_eq_true h,if_pos rfl,if_pos h,show(1:Int)=((1:Nat):Int)from rfl,Hc hn,Option.bind_some,dU _ (by simp;omega),Option.bind_some]
  cases hc:Q8 (s.drop 1)with
  |none=>rfl
  |some pq=>
   obtain⟨p,q⟩:=pq
   have hlen:=iE hc
   rw[List.length_drop]at hlen
   refine(YL true p q (by omega) (by omega)).trans ?_
   rw[Option.bind_some]
   by_cases hm:(58:UInt8)∈p
   ·rw[if_pos (decide_eq_true hm),if_pos hm]
   ·rw[if_neg (by rw[decide_eq_true_eq];exact hm),if_neg hm]
 ·rw[decide_eq_false h,if_neg (by decide),if_neg h,Hf s 58 hl,Option.bind_some,EI]
  rcases Mz s 58 with ⟨hn,_⟩|⟨p,q,hs,hn,_⟩
  ·have h58:(58:UInt8)∉s:=fun h=>hn 58 h rfl
   rw[HC hn,if_neg h58]
   rfl
  ·have hp:(58:UInt8)∉p:=fun h=>hn 58 h rfl
   have hlen:s.length=p.length+(q.length+1):=by rw[hs];simp
   have hm:(58:UInt8)∈s:=by rw[hs];simp
   have h1:=(Ns s 58).2 hm
   have hi:DC (AL 58 s) 0=some p:=by rw[hs,GA hn];rfl
   have hsub:H8 s (some (IntKind.i64.wrap ((p.length:Int)+1))) none=some q:=by
    rw[show(p.length:Int)+1=((p.length+1:Nat):Int) by omega,Bu (by omega),Hc (by omega),hs,←List.drop_drop,List.drop_left];rfl
   rw[hi,Option.bind_some,decide_eq_true (by omega:(1:Int)<((AL 58 s).length:Int)),if_pos rfl,Option.bind_some,hsub,Option.bind_some,if_pos hm]
   refine(YL false p q (by omega) (by omega)).trans ?_
   rw[if_pos (decide_eq_false hp)]
   rw[hs,iD hp]
end Go.Proofs.YtobejhpigbllpaaGreatDoor.Am
namespace Go.Proofs.YtobejhpigbllpaaGreatDoor.Am
theorem AaD: ∀{s:AH} {l:List UInt8},MT s=some l→s≠[]→l≠[]
 |[],_,_,h=>absurd rfl h
 |[_],_,e,_=>by cases e
 |a::b::r,l,e,_=>by
  simp only[MT]at e
  obtain⟨x,_,e⟩:=Option.bind_eq_some_iff.1 e
  obtain⟨y,_,e⟩:=Option.bind_eq_some_iff.1 e
  obtain⟨m,_,rfl⟩:=Option.map_eq_some_iff.1 e
  simp
theorem XU(s:AH)(hl:s.length<1073741824): ∃b,Nn s=some (b,(H7 s).2)∧((H7 s).2=0→b=(H7 s).1):=by
 unfold Nn H7
 by_cases h1:s=[45]
 ·rw[if_pos (decide_eq_true h1),if_pos h1];exact⟨_,rfl,fun _=>rfl⟩
 ·rw[if_neg (by rw[decide_eq_true_eq];exact h1),if_neg h1,VZ s hl]
  by_cases h2:s=[]
  ·rw[if_pos h2,h2]
   exact⟨_,rfl,fun h=>by cases h⟩
  ·rw[if_neg h2]
   unfold aZ
   cases hh:MT s with
   |none=>exact⟨_,rfl,fun _=>rfl⟩
   |some l=>
    have hne:=AaD hh h2
    refine⟨NF l,?_,fun _=>rfl⟩
    have h0:decide (((NF l).l.length:Int)=0)=false:=by
     rw[decide_eq_false_iff_not]
     cases l with
     |nil=>exact absurd rfl hne
     |cons x r=>simp[NF,GS.l];omega
    show((Cg (decide ((0:Int)=0)) (some (decide (((NF l).l.length:Int)=0)))).bind fun x8=>if x8=true then some (NF l,(5:Int))else some (NF l,0))=some (NF l,0)
    rw[h0];rfl
theorem V1(e:Al)(s:AH)(hl:s.length<1073741824): ∃b,LP e (98:UInt8) s=some ({e with Bytes:=b},(H7 s).2)∧((H7 s).2=0→b=(H7 s).1):=by
 obtain⟨b,h1,h2⟩:=XU s hl
 refine⟨b,?_,h2⟩
 show((Nn s).bind fun x3=>some (({e with Bytes:=x3.1}:Al),x3.2))=_
 rw[h1];rfl
theorem sV(e:Al)(s:AH)(hl:s.length<1073741824):LP e (107:UInt8) s=some ({e with Key:=(Nv s).1},(Nv s).2):=by
 show((Jj s).bind fun x3=>some (({e with Key:=x3.1}:Al),x3.2))=_
 rw[ZY s hl];rfl
theorem sU(e:Al)(s:AH)(hl:s.length<1073741824):LP e (116:UInt8) s=some ({e with To:=(G0 s).1},(G0 s).2):=by
 show((Np s).bind fun x3=>some (({e with To:=x3.1}:Al),x3.2))=_
 rw[qA s hl];rfl
theorem take_w(e:Al)(s:AH)(hl:s.length<1073741824):LP e (119:UInt8) s=some ({e with Why:=(OX s).1},(OX s).2):=by
 have hle:=Vq s 20
 show((KD s (20:UInt64)).bind fun x23=>(Cg (decide (x23.2=0)) (some (decide ((x23.1.toNat:Int)=((0:UInt64).toNat:Int))))).bind fun x28=>
  (if x28=true then some (.inl (6:Int))else some (.inl x23.2):Option (Int⊕(Al×Int))).bind (Sum.elim (fun p29=>some (({e with Why:=IntKind.i64.wrap (x23.1.toNat:Int)}:Al),p29)) some))=_
 rw[Wa s _ hl]
 unfold Xe OX
 rw[show(20:UInt64).toNat=20 from rfl,Option.bind_some]
 dsimp only
 rw[eF (by omega),Bu (by omega),show((0:UInt64).toNat:Int)=0 from rfl]
 by_cases h0:(Dn s 20).2=0
 ·rw[decide_eq_true h0]
  by_cases h1:(Dn s 20).1=0
  ·rw[if_pos ⟨h0,h1⟩,h1];rfl
  ·rw[if_neg (fun h=>h1 h.2),decide_eq_false (by omega: ¬((Dn s 20).1:Int)=0)];rfl
 ·rw[decide_eq_false h0,if_neg (fun h=>h0 h.1)];rfl
noncomputable def LR(g:List AH)(s30:Int×Al):Option ((Int×Al)⊕(Al⊕(Al×Int))):=
 if(decide (s30.1<(g.length:Int)))=true then
  Pr (C2 ([[],[98],[116,107,98],[107,98],[98],[119],[116,98]]:List AH).length s30.2.Kind) fun x34 _=>
  Pr (([[],[98],[116,107,98],[107,98],[98],[119],[116,98]]:List AH)[x34]?.map fun x=>x) fun x35 _=>
  (DC x35 (IntKind.i64.wrap (s30.1-1))).bind fun x37=>
  Pr (DC g s30.1) fun x38 _=>
  Pr (LP s30.2 x37 x38) fun x40 _=>
  if(!decide (x40.2=0))=true then
   (some (MK,x40.2)).map fun r=> .inr (.inr r)
  else some (.inl (IntKind.i64.wrap (s30.1+1),x40.1))
 else some (.inr (.inl s30.2))
noncomputable def LQ(g:List AH)(e:Al):Option (Al×Int):=(iter (LR g) (1,e)).bind (Sum.elim (fun p=>some (p,0)) some)
noncomputable def Fq(g:List AH)(p7:Al):Option (Al×Int):=
 if(decide (p7.Kind=0))=true then some (p7,12)
 else
  (C2 ([[],[98],[116,107,98],[107,98],[98],[119],[116,98]]:List AH).length p7.Kind).bind fun x23=>
  (([[],[98],[116,107,98],[107,98],[98],[119],[116,98]]:List AH)[x23]?.map fun x=>x).bind fun x24=>
  if(!decide ((g.length:Int)=IntKind.i64.wrap ((x24.length:Int)+1)))=true then some (MK,5)else LQ g p7
theorem K5{F:Int×Al→Option ((Int×Al)⊕(Al⊕(Al×Int)))}{i j:Int}{e e':Al}{x:Int}{t:Option (Al×Int)}
  (hF:F (i,e)=Pr t fun x40 _=>if(!decide (x40.2=0))=true then(some (MK,x40.2)).map fun r=> .inr (.inr r)else some (.inl (j,x40.1))) (ht:t=some (e',x)) {R:Al×Int} (h:(iter F (j,e')).bind (Sum.elim (fun p=>some (p,0)) some)=some R):
  (iter F (i,e)).bind (Sum.elim (fun p=>some (p,0)) some)=some (Qz x MK R):=by
 subst ht
 unfold Qz
 by_cases hx:x=0
 ·subst hx
  rw[if_pos rfl,BZ (hF.trans rfl)]
  exact h
 ·rw[if_neg hx,Bs (b:= .inr (MK,x)) (hF.trans (show(if(!decide (x=0))=true then _ else _)=_ by rw[decide_eq_false hx];rfl))]
  rfl
theorem NA{F:Int×Al→Option ((Int×Al)⊕(Al⊕(Al×Int)))}{i:Int}{e:Al}(hF:F (i,e)=some (.inr (.inl e))):(iter F (i,e)).bind (Sum.elim (fun p=>some (p,0)) some)=some (e,0):=by
 rw[Bs hF];rfl
theorem NX{x:Int}{a b:Al×Int}(h:x=0→a=b):Qz x MK a=Qz x MK b:=by
 unfold Qz
 by_cases hx:x=0
 ·rw[if_pos hx,if_pos hx,h hx]
 ·rw[if_neg hx,if_neg hx]
theorem rest1(p u:AH)(hu:u.length<1073741824):Fq [p,u] ⟨1, .nil,CW,zK,0⟩=some (LU 1 [p,u]):=by
 obtain⟨b,h1,h2⟩:=V1 ⟨1, .nil,CW,zK,0⟩ u hu
 refine(show Fq [p,u] ⟨1, .nil,CW,zK,0⟩=LQ [p,u] ⟨1, .nil,CW,zK,0⟩from rfl).trans ?_
 refine(K5 (F:=LR [p,u]) (i:=1) (j:=2) rfl h1 (NA rfl)).trans ?_
 exact congrArg some (NX fun h=>by rw[h2 h];rfl)
theorem rest4(p u:AH)(hu:u.length<1073741824):Fq [p,u] ⟨4, .nil,CW,zK,0⟩=some (LU 4 [p,u]):=by
 obtain⟨b,h1,h2⟩:=V1 ⟨4, .nil,CW,zK,0⟩ u hu
 refine(show Fq [p,u] ⟨4, .nil,CW,zK,0⟩=LQ [p,u] ⟨4, .nil,CW,zK,0⟩from rfl).trans ?_
 refine(K5 (F:=LR [p,u]) (i:=1) (j:=2) rfl h1 (NA rfl)).trans ?_
 exact congrArg some (NX fun h=>by rw[h2 h];rfl)
theorem rest5(p u:AH)(hu:u.length<1073741824):Fq [p,u] ⟨5, .nil,CW,zK,0⟩=some (LU 5 [p,u]):=by
 refine(show Fq [p,u] ⟨5, .nil,CW,zK,0⟩=LQ [p,u] ⟨5, .nil,CW,zK,0⟩from rfl).trans ?_
 exact(K5 (F:=LR [p,u]) (i:=1) (j:=2) rfl (take_w _ u hu) (NA rfl)).trans rfl
theorem rest3(p u v:AH)(hu:u.length<1073741824)(hv:v.length<1073741824):Fq [p,u,v] ⟨3, .nil,CW,zK,0⟩=some (LU 3 [p,u,v]):=by
 obtain⟨b,h1,h2⟩:=V1 ⟨3, .nil,CW,(Nv u).1,0⟩ v hv
 refine(show Fq [p,u,v] ⟨3, .nil,CW,zK,0⟩=LQ [p,u,v] ⟨3, .nil,CW,zK,0⟩from rfl).trans ?_
 refine(K5 (F:=LR [p,u,v]) (i:=1) (j:=2) rfl (sV _ u hu) (K5 (i:=2) (j:=3) rfl h1 (NA rfl))).trans ?_
 exact congrArg some (NX fun _=>NX fun h=>by rw[h2 h];rfl)
theorem rest6(p u v:AH)(hu:u.length<1073741824)(hv:v.length<1073741824):Fq [p,u,v] ⟨6, .nil,CW,zK,0⟩=some (LU 6 [p,u,v]):=by
 obtain⟨b,h1,h2⟩:=V1 ⟨6, .nil,(G0 u).1,zK,0⟩ v hv
 refine(show Fq [p,u,v] ⟨6, .nil,CW,zK,0⟩=LQ [p,u,v] ⟨6, .nil,CW,zK,0⟩from rfl).trans ?_
 refine(K5 (F:=LR [p,u,v]) (i:=1) (j:=2) rfl (sU _ u hu) (K5 (i:=2) (j:=3) rfl h1 (NA rfl))).trans ?_
 exact congrArg some (NX fun _=>NX fun h=>by rw[h2 h];rfl)
theorem rest2(p t u v:AH)(ht:t.length<1073741824)(hu:u.length<1073741824)(hv:v.length<1073741824):Fq [p,t,u,v] ⟨2, .nil,CW,zK,0⟩=some (LU 2 [p,t,u,v]):=by
 obtain⟨b,h1,h2⟩:=V1 ⟨2, .nil,(G0 t).1,(Nv u).1,0⟩ v hv
 refine(show Fq [p,t,u,v] ⟨2, .nil,CW,zK,0⟩=LQ [p,t,u,v] ⟨2, .nil,CW,zK,0⟩from rfl).trans ?_
 refine(K5 (F:=LR [p,t,u,v]) (i:=1) (j:=2) rfl (sU _ t ht) (K5 (i:=2) (j:=3) rfl (sV _ u hu) (K5 (i:=3) (j:=4) rfl h1 (NA rfl)))).trans ?_
 exact congrArg some (NX fun _=>NX fun _=>NX fun h=>by rw[h2 h];rfl)
theorem PU(P:List AH)(k:Int)(n:Nat)(x:AH)(h0: ¬k=0)(hi:C2 7 k=some n)(hx:([[],[98],[116,107,98],[107,98],[98],[119],[116,98]]:List AH)[n]? =some x)(hxl:x.length<10)(hl:P.length≠x.length+1):Fq P ⟨k, .nil,CW,zK,0⟩=some (MK,5):=by
 unfold Fq
 rw[if_neg (by rw[decide_eq_true_eq];exact h0)]
 refine(congrArg (fun o:Option Nat=>o.bind _) (show C2 ([[],[98],[116,107,98],[107,98],[98],[119],[116,98]]:List AH).length k=some n from hi)).trans ?_
 refine(congrArg (fun o:Option AH=>(o.map fun x=>x).bind _) hx).trans ?_
 refine if_pos ?_
 rw[show(x.length:Int)+1=((x.length+1:Nat):Int) by omega,Bu (by omega),decide_eq_false (by omega)];rfl
def kev(k:Int):Al:=⟨k, .nil,CW,zK,0⟩
theorem lR{P:List AH}{p:AH}{F:Int×Al→Option ((Int×Al)⊕(Al⊕(Al×Int)))}
  (hs: ∀(k:Int) (n:Nat) (w:AH) (e:Al),C2 7 k=some n→([[],w1,w2,w3,w4,w5,w6]:List AH)[n]? =some w→k≤6→F (k,e)=some (.inl (IntKind.i64.wrap (k+1),if w=p then{e with Kind:=k}else e)))
  (he: ∀e,F (7,e)=some (.inr (.inl e))) {K:Al⊕(Al×Int)→Option (Al×Int)}:(iter F (1,MK)).bind K=K (.inl (kev (DY p))):=by
 have step: ∀(k:Int) (n:Nat) (w:AH) (e:Al) (j:Int),C2 7 k=some n→([[],w1,w2,w3,w4,w5,w6]:List AH)[n]? =some w→k≤6→IntKind.i64.wrap (k+1)=j→iter F (k,e)=iter F (j,if w=p then{e with Kind:=k}else e):=fun k n w e j h1 h2 h3 h4=>by
  rw[BZ (hs k n w e h1 h2 h3),h4]
 rw[step 1 1 w1 MK 2 rfl rfl (by decide) rfl,step 2 2 w2 _ 3 rfl rfl (by decide) rfl,step 3 3 w3 _ 4 rfl rfl (by decide) rfl,step 4 4 w4 _ 5 rfl rfl (by decide) rfl,step 5 5 w5 _ 6 rfl rfl (by decide) rfl,step 6 6 w6 _ 7 rfl rfl (by decide) rfl,Bs (he _),Option.bind_some]
 congr 2
 unfold DY kev
 by_cases e1:p=w1
 ·subst e1;rfl
 by_cases e2:p=w2
 ·subst e2;rfl
 by_cases e3:p=w3
 ·subst e3;rfl
 by_cases e4:p=w4
 ·subst e4;rfl
 by_cases e5:p=w5
 ·subst e5;rfl
 by_cases e6:p=w6
 ·subst e6;rfl
 rw[if_neg (show¬w6=p from fun h=>e6 h.symm),if_neg (show¬w5=p from fun h=>e5 h.symm),if_neg (show¬w4=p from fun h=>e4 h.symm),if_neg (show¬w3=p from fun h=>e3 h.symm),if_neg (show¬w2=p from fun h=>e2 h.symm),if_neg (show¬w1=p from fun h=>e1 h.symm),if_neg e1,if_neg e2,if_neg e3,if_neg e4,if_neg e5,if_neg e6]
 rfl
theorem pY(s:AH)(hl:s.length<1073741824):No s=Fq (AL 32 s) (kev (DY ((AL 32 s).getD 0 []))):=by
 obtain⟨p,r,e⟩:=List.exists_cons_of_ne_nil (CD (c:=32) s)
 unfold No
 rw[Hf s 32 hl,Option.bind_some,e]
 refine(lR (P:=p::r) (p:=p) ?_ ?_).trans rfl
 ·intro k n w e h1 h2 h3
  dsimp only
  rw[if_pos (decide_eq_true h3)]
  refine(congrArg (fun o:Option Nat=>o.bind _) (show C2 ([[],w1,w2,w3,w4,w5,w6]:List AH).length k=some n from h1)).trans ?_
  refine(congrArg (fun o:Option AH=>(o.map fun x=>x).bind _) h2).trans ?_
  show(if decide (w=p)=true then _ else _)=_
  by_cases hw:w=p
  ·rw[if_pos (decide_eq_true hw),if_pos hw]
  ·rw[if_neg (by rw[decide_eq_true_eq];exact hw),if_neg hw]
 ·intro e;rfl
theorem pZ(s:AH)(hl:s.length≤100000):No s=some (ET s):=by
 rw[pY s (by omega)]
 have hsub: ∀x∈AL 32 s,x.length<1073741824:=fun x hx=>by have:=DX hx;omega
 unfold ET
 dsimp only
 generalize AL 32 s=P at hsub
 have hk: ∀w,DY w=1∨DY w=2∨DY w=3∨DY w=4∨DY w=5∨DY w=6∨DY w=0:=fun w=>by
  unfold DY
  repeat' split
  all_goals simp
 have h2: ∀{m:Nat},P.length=m+1→ ∃p r,P=p::r∧r.length=m:=fun{m} h=>by
  cases P with
  |nil=>cases h
  |cons p r=>exact⟨p,r,rfl,by simpa using h⟩
 rcases hk (P.getD 0 [])with h|h|h|h|h|h|h<;>rw[h]
 ·rw[if_neg (by decide)]
  by_cases hc:P.length=2
  ·rw[if_pos (show P.length=KP 1 from hc)]
   match P,hc,hsub with
   |[p,u],_,hs=>exact rest1 p u (hs u (by simp))
  ·rw[if_neg (show¬P.length=KP 1 from hc)];exact PU P 1 1 [98] (by decide) rfl rfl (by decide) hc
 ·rw[if_neg (by decide)]
  by_cases hc:P.length=4
  ·rw[if_pos (show P.length=KP 2 from hc)]
   match P,hc,hsub with
   |[p,t,u,v],_,hs=>exact rest2 p t u v (hs t (by simp)) (hs u (by simp)) (hs v (by simp))
  ·rw[if_neg (show¬P.length=KP 2 from hc)];exact PU P 2 2 [116,107,98] (by decide) rfl rfl (by decide) hc
 ·rw[if_neg (by decide)]
  by_cases hc:P.length=3
  ·rw[if_pos (show P.length=KP 3 from hc)]
   match P,hc,hsub with
   |[p,u,v],_,hs=>exact rest3 p u v (hs u (by simp)) (hs v (by simp))
  ·rw[if_neg (show¬P.length=KP 3 from hc)];exact PU P 3 3 [107,98] (by decide) rfl rfl (by decide) hc
 ·rw[if_neg (by decide)]
  by_cases hc:P.length=2
  ·rw[if_pos (show P.length=KP 4 from hc)]
   match P,hc,hsub with
   |[p,u],_,hs=>exact rest4 p u (hs u (by simp))
  ·rw[if_neg (show¬P.length=KP 4 from hc)];exact PU P 4 4 [98] (by decide) rfl rfl (by decide) hc
 ·rw[if_neg (by decide)]
  by_cases hc:P.length=2
  ·rw[if_pos (show P.length=KP 5 from hc)]
   match P,hc,hsub with
   |[p,u],_,hs=>exact rest5 p u (hs u (by simp))
  ·rw[if_neg (show¬P.length=KP 5 from hc)];exact PU P 5 5 [119] (by decide) rfl rfl (by decide) hc
 ·rw[if_neg (by decide)]
  by_cases hc:P.length=3
  ·rw[if_pos (show P.length=KP 6 from hc)]
   match P,hc,hsub with
   |[p,u,v],_,hs=>exact rest6 p u v (hs u (by simp)) (hs v (by simp))
  ·rw[if_neg (show¬P.length=KP 6 from hc)];exact PU P 6 6 [116,98] (by decide) rfl rfl (by decide) hc
 ·rw[if_pos rfl];rfl
theorem fS: ∀{s:AH} {l:List UInt8},MT s=some l→l.length≤s.length
 |[],_,e=>by cases e;exact Nat.zero_le _
 |[_],_,e=>by cases e
 |a::b::r,l,e=>by
  simp only[MT]at e
  obtain⟨x,_,e⟩:=Option.bind_eq_some_iff.1 e
  obtain⟨y,_,e⟩:=Option.bind_eq_some_iff.1 e
  obtain⟨m,hm,rfl⟩:=Option.map_eq_some_iff.1 e
  have:=fS hm
  simp only[List.length_cons];omega
theorem sQ(s:AH):(H7 s).1.l.length≤s.length:=by
 unfold H7
 split
 ·exact Nat.zero_le _
 ·split
  ·exact Nat.zero_le _
  ·unfold aZ
   cases hh:MT s with
   |none=>exact Nat.zero_le _
   |some l=>
    have:=fS hh
    cases l with
    |nil=>exact Nat.zero_le _
    |cons x r=>exact this
theorem kL(s:AH):(ET s).1.Bytes.l.length≤s.length:=by
 have hs: ∀n,((AL 32 s).getD n []).length≤s.length:=fun n=>by
  rw[List.getD_eq_getElem?_getD]
  cases hh:(AL 32 s)[n]? with
  |none=>exact Nat.zero_le _
  |some x=>exact DX (List.mem_of_getElem? hh)
 have hu: ∀n,(H7 ((AL 32 s).getD n [])).1.l.length≤s.length:=fun n=>Nat.le_trans (sQ _) (hs n)
 have ho: ∀(x:Int) (f:Al×Int),f.1.Bytes.l.length≤s.length→(Qz x MK f).1.Bytes.l.length≤s.length:=fun x f h=>by
  unfold Qz
  split
  ·exact h
  ·exact Nat.zero_le _
 unfold ET
 dsimp only
 split
 ·exact Nat.zero_le _
 ·split
  ·unfold LU
   repeat' split
   ·exact ho _ _ (hu 1)
   ·exact ho _ _ (ho _ _ (ho _ _ (hu 3)))
   ·exact ho _ _ (ho _ _ (hu 2))
   ·exact ho _ _ (Nat.zero_le _)
   ·exact ho _ _ (ho _ _ (hu 2))
  ·exact Nat.zero_le _
theorem pQ(e:Al):OE e e=true:=by simp[OE]
theorem RT(s:AH):KY s=some true:=by
 unfold KY
 by_cases h:(9000:Int)<(s.length:Int)
 ·rw[if_pos (decide_eq_true h),QL];rfl
 ·rw[if_neg (by rw[decide_eq_true_eq];exact h),U3 s (by omega),Option.bind_some,pZ s (by omega),Option.bind_some]
  have hb:=kL s
  rw[sameR _ _ (by omega),pQ,Option.bind_some,decide_eq_true rfl,QL,HB]
  by_cases h0:(ET s).2=0
  ·rw[aD h0];cases (!decide ((ET s).2=0))<;>rfl
  ·rw[decide_eq_false h0];rfl
end Go.Proofs.YtobejhpigbllpaaGreatDoor.Am

