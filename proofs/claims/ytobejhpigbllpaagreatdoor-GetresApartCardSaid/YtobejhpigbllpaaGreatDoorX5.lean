/-
  Plain laws: blocks of pairs; the laws PairlineBlocks, PairlineReads, PairlineMany.
  Plain laws: a number's digits; the text of an error.
  Plain laws: a number's text.
  Plain laws: texts put together; bytes as digits of sixteen.
  Plain laws: addresses as texts.
  Plain laws: sixteen bytes as a text.
  Plain laws: endpoints and prefixes as texts; fields as pairs.
  Plain laws: fields as pairs.
  Plain laws: which configurations may be.
  Plain laws: the fields of a configuration; the law GetresTexts.
  Plain laws: what is read of texts (numbers, digits of sixteen, addresses), and that what was written is read as it was.
  Plain laws: what is read of a pair; no two configurations have one text: the law GetresApart.
  The law.
-/
import Derived.Test.YtobejhpigbllpaaGreatDoorX4
namespace Go.Proofs.YtobejhpigbllpaaGreatDoor.Am
theorem VX{α:Type}{q:α→Bool}: ∀{l:List α} {n:Nat} {x:α},l[n]? =some x→(∀y∈l.take n,q y=false)→q x=true→l.find? q=some x
 |[],_,_,h,_,_=>by simp at h
 |y::l,0,x,h,_,hq=>by simp only[List.getElem?_cons_zero,Option.some.injEq]at h;subst h;simp[hq]
 |y::l,n+1,x,h,ha,hq=>by
  have h1:=ha y (by simp)
  rw[List.find?_cons,h1]
  exact VX (n:=n) (by simpa using h) (fun z hz=>ha z (by simp[hz])) hq
def PJ(p:A0):AR×Int:=Tc p.Key p.Value
def RB(p:A0):Bool:=decide ((PJ p).2≠0)
def E6(p:A0):AR:=p.Key++61::p.Value
def ST(l:List A0):AR×Int:=
 if 400<l.length then([],4)else match l.find? RB with
  |some p=>([],(PJ p).2)
  |none=>(OH (l.map E6)++[10],0)
theorem pZ{k v:AR}(h:(Tc k v).2=0):(Tc k v).1=k++61::v∧aP (k++61::v) k v:=by
 unfold Tc at h ⊢
 by_cases hc:k=[]∨61∈k∨10∈k∨10∈v
 ·rw[if_pos hc]at h;simp at h
 ·rw[if_neg hc]at h ⊢
  by_cases hl:512<(k++[61]++v).length
  ·rw[if_pos hl]at h;simp at h
  ·rw[if_neg hl]
   refine⟨by simp,rfl,fun h=>hc (.inr (.inl h)),fun h=>hc (.inl h),fun h=> ?_,by simp at hl ⊢;omega⟩
   simp only[List.mem_append,List.mem_cons]at h
   rcases h with h|h|h
   ·exact hc (.inr (.inr (.inl h)))
   ·exact absurd h (by decide)
   ·exact hc (.inr (.inr (.inr h)))
theorem qA{k v:AR}(s:aP (k++61::v) k v):Tc k v=(k++61::v,0):=by
 have hm:=s.2.2.2.1
 have hle:=s.2.2.2.2
 simp only[List.mem_append,List.mem_cons,not_or]at hm
 unfold Tc
 rw[if_neg (by
  rintro(h|h|h|h)
  ·exact s.2.2.1 h
  ·exact s.2.1 h
  ·exact hm.1 h
  ·exact hm.2.2 h),if_neg (by simp at hle ⊢;omega)]
 simp
theorem W4{p:A0}(h:RB p=false):PJ p=(E6 p,0)∧aP (E6 p) p.Key p.Value:=by
 simp only[RB,ne_eq,decide_not,Bool.not_eq_false',decide_eq_true_eq]at h
 obtain⟨h1,h2⟩:=pZ h
 exact⟨Prod.ext h1 h,h2⟩
theorem pI{p:A0}(h:RB p=true):(PJ p).2≠0:=by simpa [RB]using h
theorem Aa2{p:A0}(s:aP (E6 p) p.Key p.Value):RB p=false:=by
 have:=qA s
 simp[RB,PJ,this]
def FitP(l:List A0):Prop:= ∀p∈l,p.Key.length<1073741824∧p.Value.length<1073741824
theorem oB{l:List A0}(h: ∀p∈l,RB p=false)(hl:l.length≤400):(OH (l.map E6)).length≤205200:=by
 have:=wQ (l.map E6) 512 (fun x hx=>by
  obtain⟨p,hp,rfl⟩:=List.mem_map.1 hx
  exact(W4 (h p hp)).2.2.2.2.2)
 rw[List.length_map]at this
 have h2:l.length*513≤400*513:=Nat.mul_le_mul_right _ hl
 omega
theorem Y9(g:GS A0)(hf:FitP g.l):DH g=some (ST g.l):=by
 unfold DH ST
 by_cases h4:400<g.l.length
 ·rw[if_pos h4,if_pos (by rw[decide_eq_true_eq];omega)]
 rw[if_neg h4,if_neg (by rw[decide_eq_true_eq];omega)]
 refine CM (fun s=>g.l.length-s.1.toNat) (fun s=> ∃n:Nat,s.1=n∧n≤g.l.length∧(∀p∈g.l.take n,RB p=false)∧s.2.l=(g.l.take n).map E6)
  (fun r=>(∃b:GS AR,r= .inl b∧(∀p∈g.l,RB p=false)∧b.l=g.l.map E6)∨ ∃p,r= .inr ([],(PJ p).2)∧g.l.find? RB=some p) ⟨0,rfl,by omega,by simp,rfl⟩ ?_ ?_
 ·rintro⟨s,b⟩ ⟨n,rfl,h1,h2,h3⟩
  dsimp only at h3 ⊢
  by_cases hn:n<g.l.length
  ·rw[if_pos (by simpa using hn),Bu,List.getElem?_eq_getElem hn]
   have hfit:=hf _ (List.getElem_mem hn)
   have ht:Ht g.l[n]=some (PJ g.l[n]):=pX _ _ hfit.1 hfit.2
   simp only[Option.bind_some,ht]
   by_cases hb:RB g.l[n]=true
   ·right
    rw[if_pos (by simpa using pI hb)]
    exact⟨_,rfl, .inr ⟨_,rfl,VX (List.getElem?_eq_getElem hn) h2 hb⟩⟩
   ·left
    have hb':RB g.l[n]=false:=by simpa using hb
    obtain⟨e,_⟩:=W4 hb'
    rw[e]
    have hlen:b.l.length=n:=by rw[h3,List.length_map,List.length_take];omega
    rw[K3 (by unfold BR;omega),show(n:Int)+1=((n+1:Nat):Int) by omega,Ca (by omega)]
    refine⟨(((n+1:Nat):Int), .mk (b.l++[E6 g.l[n]])),by simp,⟨n+1,rfl,by omega,fun p hp=> ?_,?_⟩,by dsimp only;omega⟩
    ·rw[List.take_succ_eq_append_getElem hn]at hp
     rcases List.mem_append.1 hp with hp|hp
     ·exact h2 p hp
     ·rw[List.mem_singleton.1 hp];exact hb'
    ·rw[List.take_succ_eq_append_getElem hn,List.map_append,←h3];rfl
  ·right
   rw[if_neg (by simpa using hn)]
   rw[List.take_of_length_le (by omega)]at h2 h3
   exact⟨_,rfl, .inl ⟨b,rfl,h2,h3⟩⟩
 ·rintro _ (⟨b,rfl,h1,h2⟩|⟨p,rfl,h⟩)
  ·have hlen:b.l.length=g.l.length:=by rw[h2,List.length_map]
   have hfind:g.l.find? RB=none:=by rw[List.find?_eq_none];exact fun x hx=>by simp[h1 x hx]
   have hfit:=oB h1 (by omega)
   have ht:OH (b.l++[[]])=OH (g.l.map E6)++[10]:=by rw[h2,bA];simp
   simp only[Sum.elim_inl,hfind]
   rw[K3 (by unfold BR;omega),Option.bind_some,tT _ (by rw[E3,ht];unfold BR;simp;omega),E3,ht]
   rfl
  ·simp only[Sum.elim_inr,h]
def wI(s:AR)(B:List AR):Prop:=s=OH B++[10]∧ ∀x∈B,x≠[]∧10∉x
theorem pP{s:AR}{B C:List AR}(h:wI s B)(g:wI s C):B=C:=by
 have e:OH B=OH C:=List.append_cancel_right (h.1.symm.trans g.1)
 have h1:=RR fun x hx=>(h.2 x hx).2
 have h2:=RR fun x hx=>(g.2 x hx).2
 rw[e,h2]at h1
 exact(List.append_cancel_right h1).symm
theorem tJ{p q:A0}(e:E6 p=E6 q)(hp:aP (E6 p) p.Key p.Value)(hq:aP (E6 q) q.Key q.Value):p=q:=by
 obtain⟨h1,h2⟩:=UR e hp.2.1 hq.2.1
 cases p;cases q;simp only at h1 h2;rw[h1,h2]
theorem Yk: ∀{l m:List A0},l.map E6=m.map E6→(∀p∈l,aP (E6 p) p.Key p.Value)→(∀p∈m,aP (E6 p) p.Key p.Value)→l=m
 |[],[],_,_,_=>rfl
 |p::l,q::m,e,h,g=>by
  simp only[List.map_cons,List.cons.injEq]at e
  rw[tJ e.1 (h p List.mem_cons_self) (g q List.mem_cons_self),Yk e.2 (fun x hx=>h x (List.mem_cons_of_mem _ hx)) fun x hx=>g x (List.mem_cons_of_mem _ hx)]
end Go.Proofs.YtobejhpigbllpaaGreatDoor.Am
namespace Go.Proofs.YtobejhpigbllpaaGreatDoor.Am
theorem S7{σ β γ:Type}{F:σ→Option (σ⊕β)}{s:σ}{K:β→Option γ}{r:Option γ}(n:Nat)(b:β)(h:Hl F n s=some b)(hk:K b=r):(iter F s).bind K=r:=by
 rw[Lp h];exact hk
def JB:Nat→Nat→AR
 |0,_=>[]
 |k+1,n=>if n<10 then [UInt8.ofNat (48+n)]else JB k (n/10)++[UInt8.ofNat (48+n%10)]
def C3(n:Nat):AR:=JB 20 n
theorem Wn: ∀(k n:Nat),n<10^(k+1)→JB (k+2) n=JB (k+1) n
 |0,n,h=>by
  have h:n<10:=by simpa using h
  simp[JB,h]
 |k+1,n,h=>by
  by_cases hn:n<10
  ·simp[JB,hn]
  ·have hd:n/10<10^(k+1):=by
    rw[Nat.div_lt_iff_lt_mul (by decide),←Nat.pow_succ];exact h
   have ih:=Wn k (n/10) hd
   rw[JB,if_neg hn,ih]
   conv=>rhs;rw[JB,if_neg hn]
theorem zT{n:Nat}(h:n<18446744073709551616):C3 n=if n<10 then [UInt8.ofNat (48+n)]else C3 (n/10)++[UInt8.ofNat (48+n%10)]:=by
 unfold C3
 rw[Wn 18 (n/10) (by omega)]
 rfl
theorem Y3: ∀(k n:Nat),(JB k n).length≤k
 |0,_=>by simp[JB]
 |k+1,n=>by
  rw[JB]
  split
  ·simp
  ·simp[Y3 k]
theorem M5(n:Nat):(C3 n).length≤20:=Y3 20 n
theorem u8_of{m:Nat}(h:m<256):IT.u8.ofI (m:Int)=UInt8.ofNat m:=by
 show UInt8.ofNat ((m:Int)%256).toNat=_
 rw[show((m:Int)%256).toNat=m by omega]
def ZJ{α:Type}:List α→GS α
 |[]=> .nil
 |x::l=> .mk (x::l)
theorem Tt{α:Type}: ∀l:List α,(ZJ l).l=l
 |[]=>rfl
 |_::_=>rfl
theorem Rm{α:Type}: ∀(l:List α) (x:α),ZJ (l++[x])= .mk (l++[x])
 |[],_=>rfl
 |_::_,_=>rfl
theorem Sp(l:GS An)(ps:List (A0×Int))(h:l.l.map Fd=ps.map some)(hl:l.l.length<1000000000):FS l=some (ZJ (ps.map (·.1))):=by
 have hlen:l.l.length=ps.length:=by have:=congrArg List.length h;simpa using this
 unfold FS
 refine CM (fun s=>l.l.length-s.1.toNat) (fun s=> ∃n:Nat,s.1=n∧n≤l.l.length∧s.2=ZJ ((ps.take n).map (·.1))) (fun r=>r= .inl (ZJ (ps.map (·.1)))) ⟨0,rfl,by omega,rfl⟩ ?_ ?_
 rotate_left
 ·rintro _ rfl;rfl
 ·rintro⟨s,b⟩ ⟨n,rfl,h1,h2⟩
  dsimp only at h2 ⊢
  subst h2
  by_cases hn:n<l.l.length
  ·rw[if_pos (by simpa using hn),Bu,List.getElem?_eq_getElem hn]
   have hp:Fd l.l[n]=some (ps[n]'(by omega)):=by
    have:=congrArg (fun x=>x[n]?) h
    simp only[List.getElem?_map,List.getElem?_eq_getElem hn,List.getElem?_eq_getElem (show n<ps.length by omega),Option.map_some,Option.some.injEq]at this
    exact this
   have hbl:(ZJ ((ps.take n).map (·.1))).l.length=n:=by rw[Tt,List.length_map,List.length_take];omega
   left
   simp only[Option.bind_some,hp]
   rw[K3 (by unfold BR;omega),show(n:Int)+1=((n+1:Nat):Int) by omega,Ca (by omega)]
   refine⟨_,rfl,⟨n+1,rfl,by omega,?_⟩,by dsimp only;omega⟩
   rw[List.take_succ_eq_append_getElem (by omega),List.map_append,Tt]
   exact(Rm _ _).symm
  ·right
   rw[if_neg (by simpa using hn)]
   exact⟨_,rfl,by rw[List.take_of_length_le (by omega)]⟩
def No(n:Nat):An:=⟨16,(A2 32 T.u8).z,UInt64.ofNat n,Aq.z,Ah.z⟩
def Wj(n:Nat):A0:=⟨[101,114,114,110,111],C3 n⟩
theorem cB: ∀n:Fin 21,Fd (No n.1)=some (Wj n.1,0):=by decide+kernel
def zN(l:List A0):Bool:=l.all fun p=>decide (p.Key.length<1073741824)&&decide (p.Value.length<1073741824)
theorem oS{l:List A0}(h:zN l=true):FitP l:=by
 intro p hp
 have:=List.all_eq_true.1 h p hp
 simpa using this
theorem gA{g:GS A0}{r:AR×Int}(hf:zN g.l=true)(h:ST g.l=r):DH g=some r:=by
 rw[Y9 g (oS hf),h]
def yE(n:Nat):AR:=[101,114,114,110,111,61]++C3 n++[10,10]
theorem jU: ∀n:Fin 21,zN [Wj n.1]=true∧ST [Wj n.1]=(yE n.1,0):=by decide+kernel
theorem gW{n:Nat}(h:n<21):GC (n:Int)=some (yE n):=by
 have h1:=cB ⟨n,h⟩
 have h2:=jU ⟨n,h⟩
 have e:(IT.u64.ofI (n:Int))=UInt64.ofNat n:=by
  show UInt64.ofNat ((n:Int)%18446744073709551616).toNat=_
  rw[show((n:Int)%18446744073709551616).toNat=n by omega]
 unfold GC
 have ho:HO (decide ((n:Int)<0)) (some (decide (20<(n:Int))))=some false:=by
  rw[decide_eq_false (by omega),decide_eq_false (by omega)];rfl
 have hp:FS (GS.mk [(⟨16,(A2 32 T.u8).z,IT.u64.ofI (n:Int),Aq.z,Ah.z⟩:An)])=some (.mk [Wj n]):=by
  have e2:(⟨16,(A2 32 T.u8).z,IT.u64.ofI (n:Int),Aq.z,Ah.z⟩:An)=No n:=congrArg (fun x=>(⟨16,(A2 32 T.u8).z,x,Aq.z,Ah.z⟩:An)) e
  rw[e2]
  exact Sp (.mk [No n]) [(Wj n,0)] (by simp only[E3,List.map_cons,List.map_nil];exact congrArg (fun x=>[x]) h1) (by simp)
 have hb:DH (.mk [Wj n])=some (yE n,0):=gA h2.1 h2.2
 simp only[ho,Option.bind_some,Bool.false_eq_true,if_false,hp,hb]
def mC:Be:=⟨(A2 32 T.u8).z,0,0, .nil⟩
def aT:AR:=List.replicate 64 48
theorem tY:GP (.mk (List.replicate 32 0))=some aT:=by
 unfold GP
 exact S7 33 (.inl aT) (by decide+kernel) (by decide+kernel)
theorem right0:IK mC=some true:=by
 unfold IK
 have h1:IJ mC.Port=some true:=by decide+kernel
 simp only[h1,Option.bind_some]
 exact S7 1 (.inl []) (by decide+kernel) (by decide+kernel)
def TX:An:=⟨1,(A2 32 T.u8).z,0,Aq.z,Ah.z⟩
def oD:A0:=⟨[112,114,105,118,97,116,101,95,107,101,121],aT⟩
theorem hexK:Mt TX.Key=some aT:=by
 have h:(TX.Key.l.drop 0).take 32=List.replicate 32 0:=by decide+kernel
 unfold Mt
 rw[h,if_pos (by decide),tY]
 rfl
theorem tP:Fc TX=some (aT,true):=by
 unfold Fc;simp only[hexK,Option.bind_some]
theorem rC:Fd TX=some (oD,0):=by
 have hn:FZ TX.Word=some [112,114,105,118,97,116,101,95,107,101,121]:=by decide+kernel
 have h3:LR TX=some TX:=by decide+kernel
 have hc:G7 C0 TX (⟨TX.Word,(A2 32 T.u8).z,0,Aq.z,Ah.z⟩:An)=true:=by decide+kernel
 have h1:decide (TX.Word=1)=true:=rfl
 have hr:F9 TX=some true:=by
  unfold F9
  simp only[hn,h1,Option.bind_some,tP,h3,hc,if_true,Sum.elim_inl]
  rfl
 unfold Fd
 simp only[hr,hn,h1,Option.bind_some,tP,if_true,Sum.elim_inl]
 rfl
def portF:An:=⟨2,(A2 32 T.u8).z,0,Aq.z,Ah.z⟩
def XW:A0:=⟨[108,105,115,116,101,110,95,112,111,114,116],[48]⟩
def markF:An:=⟨3,(A2 32 T.u8).z,0,Aq.z,Ah.z⟩
def Yj:A0:=⟨[102,119,109,97,114,107],[48]⟩
theorem nP:Fd portF=some (XW,0):=by decide+kernel
theorem nQ:Fd markF=some (Yj,0):=by decide+kernel
def UO:AR:=E6 oD++[10]++E6 XW++[10]++E6 Yj++[10]++E6 (Wj 0)++[10,10]
theorem vN:zN [oD,XW,Yj,Wj 0]=true∧ST [oD,XW,Yj,Wj 0]=(UO,0):=by decide+kernel
theorem mS:F8 mC=some (UO,0):=by
 have e0:No 0=(⟨16,(A2 32 T.u8).z,0,Aq.z,Ah.z⟩:An):=rfl
 unfold F8
 simp only[right0,Option.bind_some,Bool.not_true,Bool.false_eq_true,if_false]
 refine S7 1 (.inl (.mk [TX,portF,markF])) rfl ?_
 simp only[Sum.elim_inl,←e0]
 rw[K3 (by unfold BR;simp),Option.bind_some]
 rw[Sp _ [(oD,0),(XW,0),(Yj,0),(Wj 0,0)] (by simp only[E3,List.map_append,List.map_cons,List.map_nil,rC,nP,nQ,List.cons_append,List.nil_append];rw[cB ⟨0,by decide⟩]) (by simp)]
 simp only[Option.bind_some,List.map_cons,List.map_nil,ZJ]
 rw[gA (g:= .mk [oD,XW,Yj,Wj 0]) vN.1 vN.2]
 rfl
theorem Hw:Ms ()=some true:=by
 have hl: ∃g,OP UO=some g∧(g.l.length:Int)=5:=by
  have hp:=Xm UO 10 (by decide+kernel)
  have h6:(DG 10 UO).length=6∧(DG 10 UO)[5]? =some []:=by decide+kernel
  unfold OP
  simp only[hp,Option.bind_some,E3]
  have hw:IntKind.i64.wrap (((DG 10 UO).length:Int)-1)=((5:Nat):Int):=by rw[h6.1];decide
  rw[hw,Bu,h6.2,slG_to (by omega)]
  exact⟨_,rfl,by simp[h6.1]⟩
 obtain⟨g,hg,h5⟩:=hl
 unfold Ms
 have e:(⟨(A2 32 T.u8).z,0,0, .nil⟩:Be)=mC:=rfl
 have h7:GC 7=some (yE 7):=gW (n:=7) (by omega)
 rw[e,mS]
 simp only[Option.bind_some,hg,h5,h7]
 decide+kernel
end Go.Proofs.YtobejhpigbllpaaGreatDoor.Am
namespace Go.Proofs.YtobejhpigbllpaaGreatDoor.Am
def rD:Nat→Nat→AR
 |0,_=>[]
 |w+1,n=>rD w (n/10)++[UInt8.ofNat (48+n%10)]
theorem fM: ∀(N k n:Nat),N<k→n<10^(N+1)→(N=0∨10^N≤n)→JB k n=rD (N+1) n
 |0,k+1,n,_,h,_=>by
  have hn:n<10:=by simpa using h
  rw[JB,if_pos hn]
  simp[rD,Nat.mod_eq_of_lt hn]
 |N+1,k+1,n,hk,h,h'=>by
  have h1:10^(N+1)≤n:=h'.resolve_left (by omega)
  have h10:10≤n:=Nat.le_trans (by rw[Nat.pow_succ];have:=Nat.pow_pos (n:=N) (show 0<10 by decide);omega) h1
  rw[JB,if_neg (by omega),fM N k (n/10) (by omega) ((Nat.div_lt_iff_lt_mul (by decide)).2 (by rw[←Nat.pow_succ];exact h)) (.inr ((Nat.le_div_iff_mul_le (by decide)).2 (by rw[←Nat.pow_succ];exact h1)))]
  rfl
theorem Kc{m:Nat}(h:m<18446744073709551616):(Co (m:Int)).toNat=m:=gN h
theorem MH{m:Nat}(h:m<4294967296):(CP (m:Int)).toNat=m:=by
 show(UInt32.ofNat ((m:Int)%4294967296).toNat).toNat=m
 rw[show((m:Int)%4294967296).toNat=m by omega]
 simp[UInt32.toNat_ofNat,h]
theorem mod64(x c:UInt64)(hc:0<c.toNat): ∃y:UInt64,(if(c.toNat:Int)=0 then none else some (Co (Int.tmod (x.toNat:Int) (c.toNat:Int))))=some y∧y.toNat=x.toNat%c.toNat:=
 ⟨_,if_neg (by omega),by rw[←Int.ofNat_tmod,Kc (by have:=x.toNat_lt;have:=Nat.mod_le x.toNat c.toNat;omega)]⟩
theorem div64(x c:UInt64)(hc:0<c.toNat): ∃y:UInt64,(if(c.toNat:Int)=0 then none else some (Co (Int.tdiv (x.toNat:Int) (c.toNat:Int))))=some y∧y.toNat=x.toNat/c.toNat:=
 ⟨_,if_neg (by omega),by rw[←Int.ofNat_tdiv,Kc (by have:=x.toNat_lt;have:=Nat.div_le_self x.toNat c.toNat;omega)]⟩
theorem Yh(x c:UInt32)(hc:0<c.toNat): ∃y:UInt32,(if(c.toNat:Int)=0 then none else some (CP (Int.tmod (x.toNat:Int) (c.toNat:Int))))=some y∧y.toNat=x.toNat%c.toNat:=
 ⟨_,if_neg (by omega),by rw[←Int.ofNat_tmod,MH (by have:=x.toNat_lt;have:=Nat.mod_le x.toNat c.toNat;omega)]⟩
theorem Y2(x c:UInt32)(hc:0<c.toNat): ∃y:UInt32,(if(c.toNat:Int)=0 then none else some (CP (Int.tdiv (x.toNat:Int) (c.toNat:Int))))=some y∧y.toNat=x.toNat/c.toNat:=
 ⟨_,if_neg (by omega),by rw[←Int.ofNat_tdiv,MH (by have:=x.toNat_lt;have:=Nat.div_le_self x.toNat c.toNat;omega)]⟩
theorem Wo(x:UInt32)(h:x.toNat<1000):(CP ((x.toNat:Int)*((2:UInt32).toNat:Int))).toNat=2*x.toNat:=by
 rw[show((x.toNat:Int)*((2:UInt32).toNat:Int))=((2*x.toNat:Nat):Int) by rw[show((2:UInt32).toNat:Int)=2 from rfl];omega,MH (by omega)]
theorem inc32(x:UInt32)(h:x.toNat<1000):((CP ((x.toNat:Int)+((1:UInt32).toNat:Int))).toNat:Int)=((x.toNat+1:Nat):Int):=by
 rw[show((x.toNat:Int)+((1:UInt32).toNat:Int))=((x.toNat+1:Nat):Int) by rw[show((1:UInt32).toNat:Int)=1 from rfl];omega,MH (by omega)]
def Zd:AR:=[48,48,48,49,48,50,48,51,48,52,48,53,48,54,48,55,48,56,48,57,49,48,49,49,49,50,49,51,49,52,49,53,49,54,49,55,49,56,49,57,50,48,50,49,50,50,50,51,50,52,50,53,50,54,50,55,50,56,50,57,51,48,51,49,51,50,51,51,51,52,51,53,51,54,51,55,51,56,51,57,52,48,52,49,52,50,52,51,52,52,52,53,52,54,52,55,52,56,52,57,53,48,53,49,53,50,53,51,53,52,53,53,53,54,53,55,53,56,53,57,54,48,54,49,54,50,54,51,54,52,54,53,54,54,54,55,54,56,54,57,55,48,55,49,55,50,55,51,55,52,55,53,55,54,55,55,55,56,55,57,56,48,56,49,56,50,56,51,56,52,56,53,56,54,56,55,56,56,56,57,57,48,57,49,57,50,57,51,57,52,57,53,57,54,57,55,57,56,57,57]
theorem gP: ∀k:Fin 100,Zd[2*k.1+1]? =some (UInt8.ofNat (48+k.1%10))∧Zd[2*k.1]? =some (UInt8.ofNat (48+k.1/10)):=by decide+kernel
def Xn(A:Ar UInt8 24)(o k:Nat):Ar UInt8 24:=(A.set (o+1) (UInt8.ofNat (48+k%10))).set o (UInt8.ofNat (48+k/10))
theorem MT{N i o k:Nat}{A:Ar UInt8 24}{x:UInt32}{c d:Int}{γ:Type}{K:Ar UInt8 24→Option γ}(hN:N≤24)(hi:i≤N)(hx:x.toNat=2*k)(hk:k<100)(hc:(i:Int)-c=((o+1:Nat):Int))(hd:(i:Int)-d=(o:Nat))(ho:o+1<N):
  ((ES Zd ((CP ((x.toNat:Int)+((1:UInt32).toNat:Int))).toNat:Int)).bind fun y=>(ES Zd (x.toNat:Int)).bind fun z=>
   (if 0+N*1≤24 then Ft N (IntKind.i64.wrap ((i:Int)-c))else none).bind fun p=>(if p<24 then some (A.set p y)else none).bind fun B=>
   (if 0+N*1≤24 then Ft N (IntKind.i64.wrap ((i:Int)-d))else none).bind fun q=>(if q<24 then some (B.set q z)else none).bind K)=K (Xn A o k):=by
 obtain⟨g1,g2⟩:=gP ⟨k,hk⟩
 rw[inc32 x (by omega),hx,Bu,Bu,g1,g2,hc,hd,Ca (by omega),Ca (by omega),if_pos (by omega),if_pos (by omega),Gi (by omega),Gi (by omega)]
 simp only[Option.bind_some]
 rw[if_pos (by omega)]
 simp only[Option.bind_some]
 rw[if_pos (by omega)]
 rfl
def U3(N a i u:Nat)(A:Ar UInt8 24):Prop:=i≤N∧u<10^i∧rD N a=rD i u++(A.l.take N).drop i
theorem setTwo{l:List UInt8}{N o:Nat}{x y:UInt8}(h:o+1<N)(hl:N≤l.length):(((l.set (o+1) y).set o x).take N).drop o=x::y::(l.take N).drop (o+2):=by
 apply List.ext_getElem?
 intro j
 rw[List.getElem?_drop,List.getElem?_take,List.getElem?_set,List.getElem?_set]
 match j with
 |0=>simp;omega
 |1=>simp;omega
 |j+2=>
  simp only[List.getElem?_cons_succ,List.getElem?_drop,List.getElem?_take]
  rw[if_neg (show¬o=o+(j+2) by omega),if_neg (show¬o+1=o+(j+2) by omega),show o+(j+2)=o+2+j by omega]
theorem U3.two{N a i u o k:Nat}{A:Ar UInt8 24}(h:U3 N a i u A)(hN:N≤24)(ho:i=o+2)(hk:k=u%100):U3 N a o (u/100) (Xn A o k):=by
 obtain⟨h1,h2,h3⟩:=h
 subst ho hk
 refine⟨by omega,?_,?_⟩
 ·rw[Nat.div_lt_iff_lt_mul (by decide)]
  rw[show 10^o*100=10^(o+2) by rw[Nat.pow_succ,Nat.pow_succ,Nat.mul_assoc]]
  exact h2
 ·have hs:((Xn A o (u%100)).l.take N).drop o=UInt8.ofNat (48+u%100/10)::UInt8.ofNat (48+u%100%10)::(A.l.take N).drop (o+2):=setTwo (by omega) (by rw[A.len];exact hN)
  rw[hs,h3]
  simp only[rD,List.append_assoc,List.cons_append,List.nil_append]
  rw[show u/10/10=u/100 by omega,show u/10%10=u%100/10 by omega,show u%10=u%100%10 by omega]
theorem U3.one{N a i u:Nat}{A:Ar UInt8 24}(h:U3 N a i u A)(hN:N≤24)(hi:i=1):U3 N a 0 0 (A.set 0 (UInt8.ofNat (48+u))):=by
 obtain⟨h1,h2,h3⟩:=h
 subst hi
 have hu:u<10:=by simpa using h2
 refine⟨by omega,by simp,?_⟩
 rw[h3]
 have:(A.set 0 (UInt8.ofNat (48+u))).l=A.l.set 0 (UInt8.ofNat (48+u)):=rfl
 rw[this]
 cases hA:A.l with
 |nil=>have:=A.len;rw[hA]at this;simp at this
 |cons y l=>
  match N,h1 with
  |N+1,_=>simp[rD,Nat.mod_eq_of_lt hu]
theorem shr64(x c:UInt64)(hc:c.toNat<64): ∃y:UInt64,(if(c.toNat:Int)<0 then none else some (Co (Int.fdiv (x.toNat:Int) (2^(min ((c.toNat:Int).toNat) 64)))))=some y∧y.toNat=x.toNat/2^c.toNat:=by
 refine⟨_,if_neg (by omega),?_⟩
 rw[Int.toNat_natCast,Nat.min_eq_left (by omega),show(2:Int)^c.toNat=((2^c.toNat:Nat):Int) by push_cast;rfl,←Int.ofNat_fdiv,Kc]
 exact Nat.lt_of_le_of_lt (Nat.div_le_self _ _) (by have:=x.toNat_lt;omega)
theorem YR{γ:Type}{x c b:UInt64}{n:Nat}{d e:Int}{K:UInt64×Int→Option γ}{r:Option γ}(hb:b.toNat=2^c.toNat)(hc:c.toNat<64)(hd:d=(n:Nat))(he:e=((n+c.toNat:Nat):Int))
  (hK: ∀(y:UInt64) (k:Nat),k≤c.toNat→y.toNat=x.toNat/2^k→(1≤x.toNat→1≤y.toNat)→(x.toNat<2^c.toNat*2^c.toNat→y.toNat<2^c.toNat)→K (y,((n+k:Nat):Int))=r):
  ((if(decide ((b.toNat:Int)≤(x.toNat:Int)))=true then
   (if(c.toNat:Int)<0 then none else some (Co (Int.fdiv (x.toNat:Int) (2^(min ((c.toNat:Int).toNat) 64))))).bind fun z=>some (.inl (z,e))
   else some (.inl (x,d)):Option ((UInt64×Int)⊕γ)).bind (Sum.elim K some))=r:=by
 by_cases h:b.toNat≤x.toNat
 ·rw[if_pos (by simpa using h)]
  obtain⟨y,e1,e2⟩:=shr64 x c hc
  rw[e1,he]
  refine hK y c.toNat (Nat.le_refl _) e2 (fun _=> ?_) (fun h2=> ?_)
  ·rw[e2,Nat.le_div_iff_mul_le (Nat.pow_pos (by decide)),Nat.one_mul,←hb];exact h
  ·rw[e2];exact(Nat.div_lt_iff_lt_mul (Nat.pow_pos (by decide))).2 h2
 ·rw[if_neg (by simpa using h),hd]
  exact hK x 0 (Nat.zero_le _) (by simp) id (fun _=>by omega)
def len8:AR:=[0,1,2,2,3,3,3,3,4,4,4,4,4,4,4,4,5,5,5,5,5,5,5,5,5,5,5,5,5,5,5,5]++List.replicate 32 6++List.replicate 64 7++List.replicate 128 8
theorem tL: ∀v:Fin 256,∃t,len8[v.1]? =some t∧(1≤v.1→v.1<2^t.toNat∧2^(t.toNat-1)≤v.1∧1≤t.toNat∧t.toNat≤8):=by
 have key: ∀v:Fin 256,(match len8[v.1]? with|some t=>decide (1≤v.1→v.1<2^t.toNat∧2^(t.toNat-1)≤v.1∧1≤t.toNat∧t.toNat≤8)|none=>false)=true:=by decide+kernel
 intro v
 have:=key v
 split at this
 ·rename_i t e;exact⟨t,e,of_decide_eq_true this⟩
 ·cases this
set_option maxRecDepth 20000 in
theorem oC(a:UInt64)(h:1≤a.toNat): ∃L:Nat,Gh a=some (L:Int)∧1≤L∧L≤64∧a.toNat<2^L∧2^(L-1)≤a.toNat:=by
 have ha:=a.toNat_lt
 have key: ∀r,(∀L:Nat,1≤L→L≤64→a.toNat<2^L→2^(L-1)≤a.toNat→r=some (L:Int))→Gh a=r:=by
  intro r hr
  unfold Gh
  refine YR (n:=0) (c:=32) (b:=4294967296) rfl (by decide) rfl rfl fun y1 k1 g1 e1 p1 q1=> ?_
  refine YR (n:=0+k1) (c:=16) (b:=65536) rfl (by decide) rfl (by rw[show(16:UInt64).toNat=16 from rfl,show(32:UInt64).toNat=32 from rfl]at*;rw[XG (by omega) (by omega)];push_cast;rfl) fun y2 k2 g2 e2 p2 q2=> ?_
  refine YR (n:=0+k1+k2) (c:=8) (b:=256) rfl (by decide) rfl (by rw[show(8:UInt64).toNat=8 from rfl,show(16:UInt64).toNat=16 from rfl,show(32:UInt64).toNat=32 from rfl]at*;rw[XG (by omega) (by omega)];push_cast;rfl) fun y3 k3 g3 e3 p3 q3=> ?_
  rw[show(8:UInt64).toNat=8 from rfl]at g3 q3
  rw[show(16:UInt64).toNat=16 from rfl]at g2 q2
  rw[show(32:UInt64).toNat=32 from rfl]at g1 q1
  have b3:y3.toNat<2^8:=q3 (q2 (q1 (by simpa using ha)))
  have hy3:1≤y3.toNat:=p3 (p2 (p1 h))
  have hv:y3.toNat=a.toNat/2^(k1+k2+k3):=by rw[e3,e2,e1,Nat.div_div_eq_div_mul,Nat.div_div_eq_div_mul,←Nat.pow_add,←Nat.pow_add,Nat.add_assoc]
  obtain⟨t,ht,h1⟩:=tL ⟨y3.toNat,b3⟩
  dsimp only at ht h1
  obtain⟨h2,h3,h4,h5⟩:=h1 hy3
  have hu8:((Ps (y3.toNat:Int)).toNat:Int)=(y3.toNat:Int):=by
   show((UInt8.ofNat ((y3.toNat:Int)%256).toNat).toNat:Int)=_
   rw[show((y3.toNat:Int)%256).toNat=y3.toNat by omega,UInt8.toNat_ofNat']
   omega
  dsimp only
  rw[hu8]
  show(ES len8 (y3.toNat:Int)).bind _=r
  rw[Bu,ht]
  simp only[Option.bind_some]
  rw[Ca (by omega),XG (by omega) (by omega),show((0+k1+k2+k3:Nat):Int)+(t.toNat:Int)=((k1+k2+k3+t.toNat:Nat):Int) by omega]
  rw[hv]at h2 h3
  refine(hr _ (by omega) (by omega) ?_ ?_).symm
  ·rw[Nat.div_lt_iff_lt_mul (Nat.pow_pos (by decide)),←Nat.pow_add,Nat.add_comm]at h2
   exact h2
  ·rw[Nat.le_div_iff_mul_le (Nat.pow_pos (by decide)),←Nat.pow_add]at h3
   rw[show k1+k2+k3+t.toNat-1=t.toNat-1+(k1+k2+k3) by omega]
   exact h3
 have hex: ∃L:Nat,1≤L∧L≤64∧a.toNat<2^L∧2^(L-1)≤a.toNat:=by
  refine⟨a.toNat.log2+1,by omega,?_,Nat.lt_log2_self,Nat.log2_self_le (by omega)⟩
  have:=(Nat.log2_lt (by omega:a.toNat≠0) (k:=64)).2 (by simpa using ha)
  omega
 obtain⟨L,l1,l2,l3,l4⟩:=hex
 refine⟨L,key _ fun M m1 m2 m3 m4=> ?_,l1,l2,l3,l4⟩
 have hLM: ∀{A B:Nat},a.toNat<2^A→2^(B-1)≤a.toNat→B≤A:=fun{A B} x y=>by
  have:2^(B-1)<2^A:=Nat.lt_of_le_of_lt y x
  have:=(Nat.pow_lt_pow_iff_right (by decide:1<2)).1 this
  omega
 have:L=M:=Nat.le_antisymm (hLM m3 l4) (hLM l3 m4)
 rw[this]
theorem zC: ∀L:Fin 65,∃p:UInt64,iY.l[L.1*78913/262144]? =some p∧p.toNat=10^(L.1*78913/262144)∧(1≤L.1→2^L.1≤10^(L.1*78913/262144+1)∧10^(L.1*78913/262144-1)≤2^(L.1-1))∧L.1*78913/262144≤19:=by
 have key: ∀L:Fin 65,(match iY.l[L.1*78913/262144]? with|some p=>decide (p.toNat=10^(L.1*78913/262144)∧(1≤L.1→2^L.1≤10^(L.1*78913/262144+1)∧10^(L.1*78913/262144-1)≤2^(L.1-1))∧L.1*78913/262144≤19)|none=>false)=true:=by decide+kernel
 intro L
 have:=key L
 split at this
 ·rename_i p e;exact⟨p,e,of_decide_eq_true this⟩
 ·cases this
theorem Xo(a:UInt64)(h:100≤a.toNat): ∃N:Nat,Dq a=some ((N+1:Nat):Int)∧N<20∧10^N≤a.toNat∧a.toNat<10^(N+1):=by
 obtain⟨L,e1,l1,l2,l3,l4⟩:=oC a (by omega)
 obtain⟨p,e2,e3,e4,e5⟩:=zC ⟨L,by omega⟩
 obtain⟨e4,e6⟩:=e4 l1
 dsimp only at e2 e3 e4 e5 e6
 have hl:Dr (L:Int)=some ((L*78913/262144:Nat):Int):=by
  unfold Dr
  rw[if_neg (by decide),show((L:Int)*78913)=((L*78913:Nat):Int) by omega,Ca (by omega),show((2:Int)^(min ((18:UInt64).toNat:Int).toNat 64))=((262144:Nat):Int) by rfl,←Int.ofNat_fdiv]
  rfl
 generalize L*78913/262144=k at*
 unfold Dq
 simp only[e1,hl,Option.bind_some,Bu,e2,Ew,e3]
 by_cases hp:10^k≤a.toNat
 ·rw[if_pos (decide_eq_true (Int.ofNat_le.2 hp))]
  refine⟨k,?_,by omega,hp,Nat.lt_of_lt_of_le l3 e4⟩
  simp only[Option.bind_some]
  rw[show((k:Nat):Int)+1=((k+1:Nat):Int) by omega,Ca (by omega)]
 ·rw[if_neg (by rw[decide_eq_true_eq];exact fun h=>hp (Int.ofNat_le.1 h))]
  have hpos:1≤k:=by
   rcases Nat.eq_zero_or_pos k with h0|h0
   ·rw[h0]at hp;simp at hp;omega
   ·exact h0
  refine⟨k-1,?_,by omega,Nat.le_trans e6 l4,?_⟩
  ·simp only[Option.bind_some]
   rw[show((k:Nat):Int)+0=((k-1+1:Nat):Int) by omega,Ca (by omega)]
  ·rw[show k-1+1=k by omega];omega
theorem vJ{n m:Nat}(h:m≤n):((RO n none (some (m:Int))).map fun p=>p.2)=some m:=by
 simp[RO,h]
theorem mF{α β:Type}{x:Option α}{K:α→Option β}{r:Option β}(Q:α→Prop)(h: ∃b,x=some b∧Q b)(k: ∀b,Q b→K b=r):x.bind K=r:=by
 obtain⟨b,rfl,hb⟩:=h;exact k b hb
theorem aI{α β:Type}{x:Option α}{K:α→Option β}{Q:β→Prop}(R:α→Prop)(h: ∃b,x=some b∧R b)(k: ∀b,R b→ ∃c,K b=some c∧Q c): ∃c,x.bind K=some c∧Q c:=by
 obtain⟨b,rfl,hb⟩:=h;exact k b hb
theorem lB{σ β γ:Type}{F:σ→Option (σ⊕β)}{K:β→Option γ}{Q':γ→Prop}{s:σ}(m:σ→Nat)(I:σ→Prop)(Q:β→Prop)(h:I s)
  (step: ∀s,I s→(∃s',F s=some (.inl s')∧I s'∧m s'<m s)∨ ∃b,F s=some (.inr b)∧Q b) (fin: ∀b,Q b→ ∃c,K b=some c∧Q' c): ∃c,(iter F s).bind K=some c∧Q' c:=
 aI Q (Mx m I Q step h) fin
theorem U3.end{N a u:Nat}{A:Ar UInt8 24}(h:U3 N a 0 u A):A.l.take N=rD N a:=by
 have:=h.2.2
 simp[rD]at this
 exact this.symm
theorem qZ{i u:Nat}(h:u<10^i)(hi:i<9):u<4294967296:=Nat.lt_trans h (Nat.lt_of_le_of_lt (Nat.pow_le_pow_right (by decide) (show i≤8 by omega)) (by decide))
set_option maxHeartbeats 4000000 in
set_option maxRecDepth 20000 in
theorem jA(a:UInt64)(h:100≤a.toNat):BP a 10=some (C3 a.toNat):=by
 have halt:=a.toNat_lt
 obtain⟨M,e1,hM,l1,l2⟩:=Xo a h
 have hM1:1≤M:=by
  rcases Nat.eq_zero_or_pos M with h0|h0
  ·subst h0;simp at l2;omega
  ·exact h0
 have hdig:C3 a.toNat=rD (M+1) a.toNat:=fM M 20 a.toNat (by omega) l2 (.inr l1)
 generalize hN:M+1=N at*
 unfold BP
 rw[if_pos (by decide)]
 dsimp only
 rw[if_neg (by rw[decide_eq_true_eq,show((100:UInt64).toNat:Int)=100 from rfl];omega),e1,Option.bind_some,vJ (by omega),Option.bind_some]
 have e100:(100:UInt32).toNat=100:=rfl
 have e10k:(10000:UInt32).toNat=10000:=rfl
 have e100m:(100000000:UInt64).toNat=100000000:=rfl
 refine mF (fun A:Ar UInt8 24=>A.l.take N=rD N a.toNat) ?_ fun A hA=>by
  rw[Option.bind_some]
  simp only[uL]
  rw[if_pos (by omega)]
  simp only[Option.bind_some,List.drop_zero,E3,hA,hdig]
 refine lB (fun s=>s.2.1.toNat) (fun s:UInt64×Int×Ar UInt8 24=> ∃i:Nat,s.2.1=i∧U3 N a.toNat i s.1.toNat s.2.2)
  (fun r=> ∃(i:Nat) (u:UInt64) (A:Ar UInt8 24),r= .inl (u,(i:Int),A)∧i<8∧U3 N a.toNat i u.toNat A) ⟨N,rfl,Nat.le_refl _,l2,by
   rw[List.drop_of_length_le (by rw[List.length_take];omega),List.append_nil]⟩ ?_ ?_
 ·rintro⟨u,s,A⟩ ⟨i,rfl,hd⟩
  dsimp only at hd ⊢
  have hiN:=hd.1
  by_cases hi:8≤i
  ·left
   rw[if_pos (by rw[decide_eq_true_eq];omega)]
   obtain⟨x13,f13,v13⟩:=mod64 u 100000000 (by decide)
   obtain⟨x15,f15,v15⟩:=div64 u 100000000 (by decide)
   rw[f13,f15,Option.bind_some,Option.bind_some]
   rw[e100m]at v13 v15
   have b13:x13.toNat<4294967296:=by omega
   have w13:=MH b13
   obtain⟨x16,f16,v16⟩:=Y2 (CP (x13.toNat:Int)) 10000 (by decide)
   obtain⟨x17,f17,v17⟩:=Yh (CP (x13.toNat:Int)) 10000 (by decide)
   rw[f16,f17,Option.bind_some,Option.bind_some]
   rw[w13,e10k,v13]at v16 v17
   obtain⟨x18,f18,v18⟩:=Y2 x17 100 (by decide)
   obtain⟨x20,f20,v20⟩:=Yh x17 100 (by decide)
   obtain⟨x22,f22,v22⟩:=Y2 x16 100 (by decide)
   obtain⟨x24,f24,v24⟩:=Yh x16 100 (by decide)
   rw[f18,f20,f22,f24,Option.bind_some,Option.bind_some,Option.bind_some,Option.bind_some]
   rw[e100,v17]at v18 v20
   rw[e100,v16]at v22 v24
   refine⟨(x15,((i-8:Nat):Int),Xn (Xn (Xn (Xn A (i-2) (u.toNat%100)) (i-4) (u.toNat/100%100)) (i-6) (u.toNat/100/100%100)) (i-8) (u.toNat/100/100/100%100)),?_,⟨i-8,rfl,?_⟩,by dsimp only;omega⟩
   ·refine(MT (N:=N) (i:=i) (o:=i-2) (k:=u.toNat%100) (by omega) hiN (by rw[Wo _ (by omega)];omega) (by omega) (by omega) (by omega) (by omega)).trans ?_
    refine(MT (N:=N) (i:=i) (o:=i-4) (k:=u.toNat/100%100) (by omega) hiN (by rw[Wo _ (by omega)];omega) (by omega) (by omega) (by omega) (by omega)).trans ?_
    refine(MT (N:=N) (i:=i) (o:=i-6) (k:=u.toNat/100/100%100) (by omega) hiN (by rw[Wo _ (by omega)];omega) (by omega) (by omega) (by omega) (by omega)).trans ?_
    refine(MT (N:=N) (i:=i) (o:=i-8) (k:=u.toNat/100/100/100%100) (by omega) hiN (by rw[Wo _ (by omega)];omega) (by omega) (by omega) (by omega) (by omega)).trans ?_
    rw[show((i:Nat):Int)-8=((i-8:Nat):Int) by omega,Ca (by omega)]
   ·rw[show x15.toNat=u.toNat/100/100/100/100 by omega]
    exact(((hd.two (by omega) (by omega) rfl).two (i:=i-2) (o:=i-4) (by omega) (by omega) rfl).two (i:=i-4) (o:=i-6) (by omega) (by omega) rfl).two (i:=i-6) (o:=i-8) (by omega) (by omega) rfl
  ·right
   rw[if_neg (by rw[decide_eq_true_eq];omega)]
   exact⟨_,rfl,i,u,A,rfl,by omega,hd⟩
 ·rintro _ ⟨i,u,A,rfl,hi,hd⟩
  have hiN:=hd.1
  have hu32:=qZ hd.2.1 (by omega)
  have wu:=MH hu32
  refine aI (fun r=> ∃(i:Nat) (w:UInt32) (A:Ar UInt8 24),r= .inl ((i:Int),w,A)∧i<4∧U3 N a.toNat i w.toNat A) ?_ ?_
  ·dsimp only
   by_cases h4:4≤i
   ·rw[if_pos (by rw[decide_eq_true_eq];omega)]
    obtain⟨x88,f88,v88⟩:=Yh (CP (u.toNat:Int)) 10000 (by decide)
    obtain⟨x89,f89,v89⟩:=Y2 (CP (u.toNat:Int)) 10000 (by decide)
    rw[f88,f89,Option.bind_some,Option.bind_some]
    rw[wu,e10k]at v88 v89
    obtain⟨x90,f90,v90⟩:=Y2 x88 100 (by decide)
    obtain⟨x92,f92,v92⟩:=Yh x88 100 (by decide)
    rw[f90,f92,Option.bind_some,Option.bind_some]
    rw[e100,v88]at v90 v92
    refine⟨.inl (((i-4:Nat):Int),x89,Xn (Xn A (i-2) (u.toNat%100)) (i-4) (u.toNat/100%100)),?_,i-4,_,_,rfl,by omega,?_⟩
    ·refine(MT (N:=N) (i:=i) (o:=i-2) (k:=u.toNat%100) (by omega) hiN (by rw[Wo _ (by omega)];omega) (by omega) (by omega) (by omega) (by omega)).trans ?_
     refine(MT (N:=N) (i:=i) (o:=i-4) (k:=u.toNat/100%100) (by omega) hiN (by rw[Wo _ (by omega)];omega) (by omega) (by omega) (by omega) (by omega)).trans ?_
     rw[show((i:Nat):Int)-4=((i-4:Nat):Int) by omega,Ca (by omega)]
    ·rw[show x89.toNat=u.toNat/100/100 by omega]
     exact(hd.two (by omega) (by omega) rfl).two (i:=i-2) (o:=i-4) (by omega) (by omega) rfl
   ·rw[if_neg (by rw[decide_eq_true_eq];omega)]
    exact⟨_,rfl,i,_,A,rfl,by omega,by rw[wu];exact hd⟩
  ·rintro _ ⟨i,w,A,rfl,hi,hd⟩
   have hiN:=hd.1
   refine aI (fun r=> ∃(i:Nat) (w:UInt32) (A:Ar UInt8 24),r= .inl ((i:Int),w,A)∧i<2∧U3 N a.toNat i w.toNat A) ?_ ?_
   ·dsimp only
    by_cases h2:2≤i
    ·rw[if_pos (by rw[decide_eq_true_eq];omega)]
     obtain⟨x75,f75,v75⟩:=Yh w 100 (by decide)
     obtain⟨x77,f77,v77⟩:=Y2 w 100 (by decide)
     rw[f75,f77,Option.bind_some,Option.bind_some]
     rw[e100]at v75 v77
     refine⟨.inl (((i-2:Nat):Int),x77,Xn A (i-2) (w.toNat%100)),?_,i-2,_,_,rfl,by omega,?_⟩
     ·refine(MT (N:=N) (i:=i) (o:=i-2) (k:=w.toNat%100) (by omega) hiN (by rw[Wo _ (by omega)];omega) (by omega) (by omega) (by omega) (by omega)).trans ?_
      rw[show((i:Nat):Int)-2=((i-2:Nat):Int) by omega,Ca (by omega)]
     ·rw[v77]
      exact hd.two (by omega) (by omega) rfl
    ·rw[if_neg (by rw[decide_eq_true_eq];omega)]
     exact⟨_,rfl,i,_,A,rfl,by omega,hd⟩
   ·rintro _ ⟨i,w,A,rfl,hi,hd⟩
    have hiN:=hd.1
    dsimp only[Sum.elim_inl]
    by_cases h1:0<i
    ·have hi1:i=1:=by omega
     subst hi1
     have hw:w.toNat<10:=by simpa using hd.2.1
     rw[if_pos (by rw[decide_eq_true_eq];omega),if_pos (by omega),show(0:Int)=((0:Nat):Int)from rfl,Gi (by omega),Option.bind_some,if_pos (by omega),Option.bind_some]
     refine⟨_,rfl,?_⟩
     have hb:Ps ((CP (((48:UInt32).toNat:Int)+(w.toNat:Int))).toNat:Int)=UInt8.ofNat (48+w.toNat):=by
      rw[show(((48:UInt32).toNat:Int)+(w.toNat:Int))=((48+w.toNat:Nat):Int) by rw[show((48:UInt32).toNat:Int)=48 from rfl];omega,MH (by omega)]
      exact u8_of (by omega)
     rw[hb]
     exact(hd.one (by omega) rfl).end
    ·obtain rfl:i=0:=by omega
     rw[if_neg (by rw[decide_eq_true_eq];omega)]
     exact⟨_,rfl,hd.end⟩
theorem mV: ∀n:Fin 100,FQ (n.1:Int)=some (C3 n.1):=by decide+kernel
theorem Iv(a:UInt64):Dt a=some (C3 a.toNat):=by
 have:BP a 10=some (C3 a.toNat):=by
  by_cases h:100≤a.toNat
  ·exact jA a h
  ·unfold BP
   rw[if_pos (by decide)]
   dsimp only
   rw[if_pos (by rw[decide_eq_true_eq,show((100:UInt64).toNat:Int)=100 from rfl];omega),Ca (by omega),mV ⟨a.toNat,by omega⟩]
   rfl
 unfold Dt HL
 rw[this];rfl
end Go.Proofs.YtobejhpigbllpaaGreatDoor.Am
namespace Go.Proofs.YtobejhpigbllpaaGreatDoor.Am
def CQ(sep:AR):List AR→AR
 |[]=>[]
 |[x]=>x
 |x::y::r=>x++sep++CQ sep (y::r)
theorem VG(sep:AR): ∀(l:List AR) (x:AR),l≠[]→CQ sep (l++[x])=CQ sep l++sep++x
 |[],_,h=>absurd rfl h
 |[y],x,_=>rfl
 |y::z::r,x,_=>by
  have:=VG sep (z::r) x (by simp)
  simp only[List.cons_append,CQ]at this ⊢
  rw[this];simp
def PK(l:List AR):Nat:=(l.map List.length).sum
theorem XJ{l:List AR}{i:Nat}(h:i<l.length):PK (l.take (i+1))=PK (l.take i)+l[i].length:=by
 unfold PK;rw[List.take_succ_eq_append_getElem h,List.map_append,List.sum_append,List.map_singleton,List.sum_singleton]
theorem KA(sep:AR): ∀l:List AR,(CQ sep l).length=sep.length*(l.length-1)+PK l
 |[]=>by simp[CQ,PK]
 |[x]=>by simp[CQ,PK]
 |x::y::r=>by
  have:=KA sep (y::r)
  simp only[CQ,List.length_append,this,PK,List.map_cons,List.sum_cons,List.length_cons,Nat.add_sub_cancel,Nat.mul_add,Nat.mul_one]
  omega
theorem RQ(l:List AR)(i:Nat):PK (l.take i)≤PK l:=by
 conv=>rhs;rw[←List.take_append_drop i l]
 unfold PK;rw[List.map_append,List.sum_append];omega
theorem VJ(sep:AR)(l:List AR)(i:Nat):(CQ sep (l.take i)).length≤(CQ sep l).length:=by
 rw[KA,KA]
 have h1:=RQ l i
 have h2:sep.length*((l.take i).length-1)≤sep.length*(l.length-1):=Nat.mul_le_mul_left _ (by rw[List.length_take];omega)
 omega
theorem dO(g:GS AR)(sep:AR)(hl:g.l.length<1000000)(hs:sep.length<1000)(h:(CQ sep g.l).length<1000000000):Il g sep=some (CQ sep g.l):=by
 unfold Il
 have hjl:=KA sep g.l
 by_cases h0:g.l.length=0
 ·rw[if_pos (by rw[decide_eq_true_eq,h0];rfl),List.eq_nil_of_length_eq_zero h0];rfl
 rw[if_neg (by rw[decide_eq_true_eq];omega)]
 by_cases h1:g.l.length=1
 ·rw[if_pos (by rw[decide_eq_true_eq,h1];rfl)]
  obtain⟨x,hx⟩:=List.length_eq_one_iff.1 h1
  rw[hx];rfl
 rw[if_neg (by rw[decide_eq_true_eq];omega)]
 have hw:IntKind.i64.wrap ((g.l.length:Int)-1)=((g.l.length-1:Nat):Int):=by
  rw[show(g.l.length:Int)-1=((g.l.length-1:Nat):Int) by omega,Ca (by omega)]
 have hprod:sep.length*(g.l.length-1)<1000000000:=by omega
 refine mF (fun r=>r= .inl ((sep.length*(g.l.length-1):Nat):Int)) ?_ ?_
 ·by_cases hs0:0<sep.length
  ·rw[if_pos (by rw[decide_eq_true_eq];omega)]
   simp only[hw]
   rw[if_neg (by omega)]
   have hq:IntKind.i64.wrap (Int.tdiv 9223372036854775807 ((g.l.length-1:Nat):Int))=((9223372036854775807/(g.l.length-1):Nat):Int):=by
    rw[show(9223372036854775807:Int)=((9223372036854775807:Nat):Int)from rfl,←Int.ofNat_tdiv,Ca (Nat.lt_of_le_of_lt (Nat.div_le_self _ _) (by decide))]
   rw[hq,Option.bind_some,if_neg (by
    rw[decide_eq_true_eq,Int.ofNat_le]
    have:1000000≤9223372036854775807/(g.l.length-1):=(Nat.le_div_iff_mul_le (by omega)).2 (by omega)
    omega)]
   have e1:IntKind.i64.wrap ((sep.length:Int)*((g.l.length-1:Nat):Int))=((sep.length*(g.l.length-1):Nat):Int):=by
    rw[←Int.natCast_mul,Ca (by omega)]
   rw[e1,Int.zero_add,Ca (by omega)]
   exact⟨_,rfl,rfl⟩
  ·rw[if_neg (by rw[decide_eq_true_eq];omega)]
   have:sep.length=0:=by omega
   exact⟨_,rfl,by rw[this,Nat.zero_mul];rfl⟩
 ·rintro _ rfl
  dsimp only[Sum.elim_inl]
  refine CM (fun s=>g.l.length-s.2.toNat) (fun s=> ∃i:Nat,s.2=i∧i≤g.l.length∧s.1=((sep.length*(g.l.length-1)+PK (g.l.take i):Nat):Int)) (fun r=>r= .inl ((CQ sep g.l).length:Int)) ⟨0,rfl,by omega,by simp[PK]⟩ ?_ ?_
  ·rintro⟨n,s⟩ ⟨i,rfl,hi,rfl⟩
   dsimp only
   have hm:=RQ g.l i
   by_cases hlt:i<g.l.length
   ·left
    have hm1:=RQ g.l (i+1)
    rw[XJ hlt]at hm1
    rw[if_pos (by rw[decide_eq_true_eq];omega),Bu,List.getElem?_eq_getElem hlt,Option.bind_some]
    rw[if_neg (by rw[decide_eq_true_eq,XG (by omega) (by omega)];omega)]
    refine⟨_,rfl,⟨i+1,?_,by omega,?_⟩,?_⟩
    ·dsimp only;rw[show(i:Int)+1=((i+1:Nat):Int) by omega,Ca (by omega)]
    ·dsimp only
     rw[XJ hlt,←Int.natCast_add,Ca (by omega),Nat.add_assoc]
    ·dsimp only;rw[show(i:Int)+1=((i+1:Nat):Int) by omega,Ca (by omega)];omega
   ·right
    rw[if_neg (by rw[decide_eq_true_eq];omega)]
    exact⟨_,rfl,by rw[List.take_of_length_le (by omega),hjl]⟩
  ·rintro _ rfl
   dsimp only[Sum.elim_inl]
   have hg1:dW [] ((CQ sep g.l).length:Int)=some []:=by
    unfold dW;rw[if_pos ⟨rfl,by omega,by unfold BR;omega⟩]
   cases hgl:g with
   |nil=>rw[hgl]at h0;simp at h0
   |mk l=>
    subst hgl
    simp only[E3]at*
    cases l with
    |nil=>simp at h0
    |cons x r=>
     have hx:x.length≤(CQ sep (x::r)).length:=by
      have:=VJ sep (x::r) 1
      simpa [CQ]using this
     rw[hg1,Option.bind_some,show(0:Int)=((0:Nat):Int)from rfl,Bu]
     simp only[List.getElem?_cons_zero,Option.bind_some]
     have hb:Le [] x=some x:=by unfold Le;rw[if_pos (by simp;unfold BR;omega)];rfl
     obtain⟨g2,hsl,hg2⟩: ∃g2:GS AR,slG (.mk (x::r)) (some 1) none=some g2∧g2.l=r:=⟨.mk r,qG (n:=1) (by simp),rfl⟩
     subst hg2
     rw[hb,Option.bind_some,hsl,Option.bind_some]
     refine CM (fun s=>g2.l.length-s.1.toNat) (fun s=> ∃i:Nat,s.1=i∧i≤g2.l.length∧s.2=CQ sep ((x::g2.l).take (i+1))) (fun b=>b= .inl (CQ sep (x::g2.l))) ⟨0,rfl,by omega,rfl⟩ ?_ ?_
     ·rintro⟨s,t⟩ ⟨i,rfl,hi,rfl⟩
      dsimp only
      by_cases hlt:i<g2.l.length
      ·left
       have hj2:=VJ sep (x::g2.l) (i+1+1)
       have hsn:CQ sep ((x::g2.l).take (i+1+1))=CQ sep ((x::g2.l).take (i+1))++sep++g2.l[i]:=by
        rw[List.take_succ_eq_append_getElem (show i+1<(x::g2.l).length by simpa using hlt),VG sep _ _ (by simp)]
        rfl
       have hj3:=hj2
       rw[hsn,List.length_append,List.length_append]at hj3
       rw[if_pos (by rw[decide_eq_true_eq];omega),Bu,List.getElem?_eq_getElem hlt,Option.bind_some]
       have b1:Le (CQ sep ((x::g2.l).take (i+1))) sep=some (CQ sep ((x::g2.l).take (i+1))++sep):=by unfold Le;rw[if_pos (by unfold BR;omega)]
       have b2:Le (CQ sep ((x::g2.l).take (i+1))++sep) g2.l[i]=some (CQ sep ((x::g2.l).take (i+1))++sep++g2.l[i]):=by unfold Le;rw[if_pos (by rw[List.length_append];unfold BR;omega)]
       rw[b1,Option.bind_some,b2,Option.bind_some]
       refine⟨_,rfl,⟨i+1,?_,by omega,hsn.symm⟩,?_⟩
       ·dsimp only;rw[show(i:Int)+1=((i+1:Nat):Int) by omega,Ca (by simp at hl;omega)]
       ·dsimp only;rw[show(i:Int)+1=((i+1:Nat):Int) by omega,Ca (by simp at hl;omega)];omega
      ·right
       rw[if_neg (by rw[decide_eq_true_eq];omega)]
       exact⟨_,rfl,by rw[List.take_of_length_le (by simp;omega)]⟩
     ·rintro _ rfl
      dsimp only[Sum.elim_inl]
      have hT:aH (decide (0<((CQ sep (x::g2.l)).length:Int))) (CQ sep (x::g2.l))=some (CQ sep (x::g2.l)):=by
       unfold aH
       refine if_pos ⟨by unfold BR;omega,fun hp h0=> ?_⟩
       rw[decide_eq_true_eq,h0]at hp
       simp at hp
      exact congrArg (fun x:Option AR=>x.bind fun y=>some y) hT
def hd(k:Nat):UInt8:=if k<10 then UInt8.ofNat (48+k)else UInt8.ofNat (87+k)
def zJ(b:UInt8):AR:=[hd (b.toNat/16),hd (b.toNat%16)]
def Kl(l:List UInt8):AR:=l.flatMap zJ
theorem VN(l:List UInt8):(Kl l).length=2*l.length:=by
 induction l with
 |nil=>rfl
 |cons b l ih=>simp only[Kl,List.flatMap_cons,List.length_append,List.length_cons]at ih ⊢;rw[ih];simp[zJ];omega
theorem oL{l:List UInt8}{i:Nat}(h:i<l.length):Kl (l.take (i+1))=Kl (l.take i)++[hd (l[i].toNat/16)]++[hd (l[i].toNat%16)]:=by
 rw[List.take_succ_eq_append_getElem h];simp only[Kl,List.flatMap_append,List.flatMap_cons,List.flatMap_nil,zJ,List.append_nil,List.append_assoc];rfl
def hdigs:AR:=[48,49,50,51,52,53,54,55,56,57,97,98,99,100,101,102]
theorem S8: ∀k:Fin 16,hdigs[k.1]? =some (hd k.1):=by decide+kernel
theorem hi_val: ∀b:Fin 256,(if((4:UInt64).toNat:Int)<0 then none else some (Ps (Int.fdiv ((UInt8.ofNat b.1).toNat:Int) (2^(min ((4:UInt64).toNat:Int).toNat 8)))))=some (UInt8.ofNat (b.1/16)):=by decide+kernel
theorem lo_val: ∀b:Fin 256,Ps (JE .and .u8 ((UInt8.ofNat b.1).toNat:Int) ((15:UInt8).toNat:Int))=UInt8.ofNat (b.1%16):=by decide+kernel
theorem nat8{k:Nat}(h:k<256):(UInt8.ofNat k).toNat=k:=by rw[UInt8.toNat_ofNat'];omega
theorem ZG(g:GS UInt8)(h:g.l.length<1000000):GP g=some (Kl g.l):=by
 unfold GP
 refine CM (fun s=>g.l.length-s.1.toNat) (fun s=> ∃i:Nat,s.1=i∧i≤g.l.length∧s.2=Kl (g.l.take i)) (fun b=>b= .inl (Kl g.l)) ⟨0,rfl,by omega,rfl⟩ ?_ ?_
 ·rintro⟨s,t⟩ ⟨i,rfl,hi,rfl⟩
  dsimp only
  have hlen:=VN (g.l.take i)
  rw[List.length_take]at hlen
  by_cases hlt:i<g.l.length
  ·left
   rw[if_pos (by rw[decide_eq_true_eq];omega),Bu,List.getElem?_eq_getElem hlt,Option.bind_some]
   have hb:=g.l[i].toNat_lt
   have e1:=hi_val ⟨g.l[i].toNat,hb⟩
   have e2:=lo_val ⟨g.l[i].toNat,hb⟩
   simp only[GA]at e1 e2
   rw[e1,Option.bind_some]
   rw[e2,nat8 (by omega),nat8 (by omega),Bu,Bu]
   have d1:=S8 ⟨g.l[i].toNat/16,by omega⟩
   have d2:=S8 ⟨g.l[i].toNat%16,by omega⟩
   have b1:Le (Kl (g.l.take i)) [hd (g.l[i].toNat/16)]=some (Kl (g.l.take i)++[hd (g.l[i].toNat/16)]):=by unfold Le;rw[if_pos (by simp;unfold BR;omega)]
   have b2:Le (Kl (g.l.take i)++[hd (g.l[i].toNat/16)]) [hd (g.l[i].toNat%16)]=some (Kl (g.l.take i)++[hd (g.l[i].toNat/16)]++[hd (g.l[i].toNat%16)]):=by unfold Le;rw[if_pos (by simp;unfold BR;omega)]
   refine⟨(((i+1:Nat):Int),Kl (g.l.take (i+1))),?_,⟨i+1,rfl,by omega,rfl⟩,by dsimp only;omega⟩
   refine(congrArg (fun x:Option UInt8=>x.bind _) d1).trans ?_
   rw[Option.bind_some,b1,Option.bind_some]
   refine(congrArg (fun x:Option UInt8=>x.bind _) d2).trans ?_
   rw[Option.bind_some,b2,Option.bind_some,oL hlt,show(i:Int)+1=((i+1:Nat):Int) by omega,Ca (by omega)]
  ·right
   rw[if_neg (by rw[decide_eq_true_eq];omega)]
   exact⟨_,rfl,by rw[List.take_of_length_le (by omega)]⟩
 ·rintro _ rfl
  dsimp only[Sum.elim_inl]
  unfold aH
  rw[if_pos ⟨by rw[VN];unfold BR;omega,fun h=>by cases h⟩]
  rfl
theorem tO(K:Ar UInt8 32):Mt K=some (Kl K.l):=by
 unfold Mt
 rw[if_pos (by decide),List.drop_zero,List.take_of_length_le (by rw[K.len];exact Nat.le_refl _),ZG _ (by simp[K.len])]
 rfl
end Go.Proofs.YtobejhpigbllpaaGreatDoor.Am
namespace Go.Proofs.YtobejhpigbllpaaGreatDoor.Am
def QU(l:List UInt8):AR:=CQ [46] (l.map fun b=>C3 b.toNat)
theorem UP{l:List AR}{n:Nat}(h: ∀x∈l,x.length≤n):PK l≤l.length*n:=by
 induction l with
 |nil=>simp[PK]
 |cons x l ih=>
  have h1:=h x (by simp)
  have h2:=ih fun y hy=>h y (by simp[hy])
  simp only[PK,List.map_cons,List.sum_cons,List.length_cons,Nat.add_mul,Nat.one_mul]at h2 ⊢
  omega
theorem XU(l:List UInt8):(QU l).length≤21*l.length:=by
 unfold QU
 rw[KA]
 have:=UP (l:=l.map fun b=>C3 b.toNat) (n:=20) (fun x hx=>by obtain⟨b,_,rfl⟩:=List.mem_map.1 hx;exact M5 _)
 simp at this ⊢
 omega
theorem dec8(b:UInt8):Dt (Co (b.toNat:Int))=some (C3 b.toNat):=by
 rw[Iv,Kc (by have:=b.toNat_lt;omega)]
theorem kP{α:Type}{l d:List α}{x:α}{i:Nat}(h:i<l.length)(hd:l.take i=d):(l.set i x).take (i+1)=d++[x]:=by
 rw[List.take_succ_eq_append_getElem (by rw[List.length_set];exact h),List.getElem_set_self,List.take_set_of_le (Nat.le_refl _),hd]
theorem nH(B:Ar UInt8 4):OQ B=some (QU B.l):=by
 have hB:=B.len
 unfold OQ
 refine CM (fun s=>4-s.1.toNat) (fun s=> ∃i:Nat,s.1=i∧i≤4∧s.2.l.take i=(B.l.take i).map fun b=>C3 b.toNat) (fun r=> ∃A:Ar AR 4,r= .inl A∧A.l=B.l.map fun b=>C3 b.toNat) ⟨0,rfl,by omega,rfl⟩ ?_ ?_
 ·rintro⟨s,A⟩ ⟨i,rfl,hi,hA⟩
  dsimp only at hA ⊢
  by_cases hlt:i<4
  ·left
   rw[if_pos (by rw[decide_eq_true_eq];omega),Bu,List.getElem?_eq_getElem (show i<B.l.length by omega),Option.bind_some,dec8,Option.bind_some,Gi hlt,Option.bind_some,if_pos hlt,Option.bind_some]
   refine⟨_,rfl,⟨i+1,?_,by omega,?_⟩,?_⟩
   ·dsimp only;rw[show(i:Int)+1=((i+1:Nat):Int) by omega,Ca (by omega)]
   ·dsimp only
    rw[List.take_succ_eq_append_getElem (show i<B.l.length by omega),List.map_append]
    exact kP (by rw[A.len];exact hlt) hA
   ·dsimp only;rw[show(i:Int)+1=((i+1:Nat):Int) by omega,Ca (by omega)];omega
  ·right
   rw[if_neg (by rw[decide_eq_true_eq];omega)]
   refine⟨_,rfl,A,rfl,?_⟩
   rw[List.take_of_length_le (by rw[A.len];omega),List.take_of_length_le (by omega)]at hA
   exact hA
 ·rintro _ ⟨A,rfl,hA⟩
  dsimp only[Sum.elim_inl]
  have hl:=XU B.l
  have hlt:(QU B.l).length<1000000000:=by omega
  have hj:=dO (.mk A.l) [46] (by simp[A.len]) (by decide) (by show(CQ [46] A.l).length<1000000000;rw[hA];exact hlt)
  rw[if_pos (by decide),List.drop_zero,List.take_of_length_le (by rw[A.len];exact Nat.le_refl _),hj,E3,hA]
  rfl
def O4:Nat→Nat→AR
 |0,_=>[]
 |k+1,n=>if n<16 then [hd n]else O4 k (n/16)++[hd (n%16)]
def Od(n:Nat):AR:=O4 5 n
theorem Yr: ∀(k n:Nat),n<16^(k+1)→O4 (k+2) n=O4 (k+1) n
 |0,n,h=>by
  have h:n<16:=by simpa using h
  simp[O4,h]
 |k+1,n,h=>by
  by_cases hn:n<16
  ·simp[O4,hn]
  ·have hd:n/16<16^(k+1):=by
    rw[Nat.div_lt_iff_lt_mul (by decide),←Nat.pow_succ];exact h
   have ih:=Yr k (n/16) hd
   rw[O4,if_neg hn,ih]
   conv=>rhs;rw[O4,if_neg hn]
theorem uI{n:Nat}(h:n<65536):Od n=if n<16 then [hd n]else Od (n/16)++[hd (n%16)]:=by
 unfold Od
 rw[Yr 3 (n/16) (by omega)]
 rfl
theorem dV: ∀(k n:Nat),(O4 k n).length≤k
 |0,_=>by simp[O4]
 |k+1,n=>by
  rw[O4]
  split
  ·simp
  ·simp[dV k]
theorem lM(n:Nat):(Od n).length≤5:=dV 5 n
theorem YQ{m:Nat}(h:m<65536):(Vw (m:Int)).toNat=m:=by
 show(UInt16.ofNat ((m:Int)%65536).toNat).toNat=m
 rw[show((m:Int)%65536).toNat=m by omega]
 simp[UInt16.toNat_ofNat,h]
theorem and15{x:Nat}(h:x<65536):JE .and .u16 (x:Int) ((15:UInt16).toNat:Int)=((x%16:Nat):Int):=by
 have h1:(BitVec.ofInt 16 (x:Int)&&&BitVec.ofInt 16 ((15:UInt16).toNat:Int)).toNat=x%16:=by
  rw[BitVec.toNat_and]
  have e1:(BitVec.ofInt 16 (x:Int)).toNat=x:=by
   rw[BitVec.toNat_ofInt];omega
  have e2:(BitVec.ofInt 16 ((15:UInt16).toNat:Int)).toNat=2^4-1:=by decide
  rw[e1,e2,Nat.and_two_pow_sub_one_eq_mod]
 unfold JE
 show((BitVec.ofInt 16 (x:Int)&&&BitVec.ofInt 16 ((15:UInt16).toNat:Int)).toNat:Int)=_
 rw[h1]
theorem enc_hd: ∀k:Fin 16,oY ((hd k.1).toNat:Int)=[hd k.1]:=by decide+kernel
theorem shr16(x:UInt16): ∃y:UInt16,(if((4:UInt64).toNat:Int)<0 then none else some (Vw (Int.fdiv (x.toNat:Int) (2^(min ((4:UInt64).toNat:Int).toNat 16)))))=some y∧y.toNat=x.toNat/16:=by
 refine⟨_,if_neg (by decide),?_⟩
 rw[show((2:Int)^(min ((4:UInt64).toNat:Int).toNat 16))=((16:Nat):Int)from rfl,←Int.ofNat_fdiv,YQ]
 have:=x.toNat_lt;omega
theorem dS(n:UInt16):Lq n=some (Od n.toNat):=by
 unfold Lq
 refine CM (fun s=>s.1.toNat) (fun s=>s.2.length≤10∧s.2.length+(Od s.1.toNat).length≤5∧Od n.toNat=Od s.1.toNat++s.2) (fun r=>r= .inr (Od n.toNat)) ⟨by simp,by simpa using lM _,by simp⟩ ?_ ?_
 ·rintro⟨c,t⟩ ⟨h1,h2,h3⟩
  have hc:=c.toNat_lt
  dsimp only at h1 h2 h3 ⊢
  rw[and15 (by omega),YQ (by omega),Bu]
  have d:=S8 ⟨c.toNat%16,by omega⟩
  obtain⟨y,f1,f2⟩:=shr16 c
  have hx:((if(oY ((hd (c.toNat%16)).toNat:Int)).length+t.length≤2*BR then some (oY ((hd (c.toNat%16)).toNat:Int)++t)else none):Option AR)=some (hd (c.toNat%16)::t):=by
   rw[enc_hd ⟨c.toNat%16,by omega⟩,if_pos (by simp;unfold BR;omega)];rfl
  have hg:=uI (n:=c.toNat) (by omega)
  by_cases hy:y.toNat=0
  ·right
   refine⟨.inr (Od n.toNat),?_,rfl⟩
   refine(congrArg (fun x:Option UInt8=>x.bind _) d).trans ?_
   rw[Option.bind_some,hx,Option.bind_some,f1,Option.bind_some,if_pos (by rw[decide_eq_true_eq,hy];rfl)]
   rw[h3,hg,if_pos (by omega),Nat.mod_eq_of_lt (show c.toNat<16 by omega)]
   rfl
  ·left
   rw[if_neg (by omega)]at hg
   rw[hg,List.length_append,List.length_singleton,←f2]at h2
   refine⟨(y,hd (c.toNat%16)::t),?_,⟨by simp;omega,by simp;omega,?_⟩,by dsimp only;omega⟩
   ·refine(congrArg (fun x:Option UInt8=>x.bind _) d).trans ?_
    rw[Option.bind_some,hx,Option.bind_some,f1,Option.bind_some,if_neg (by rw[decide_eq_true_eq];intro h;exact hy (by simpa using h))]
   ·dsimp only;rw[h3,hg,f2];simp
 ·rintro _ rfl;rfl
def G16(B:List UInt8)(i:Nat):Nat:=256*((B[2*i]?).getD 0).toNat+((B[2*i+1]?).getD 0).toNat
theorem wD(B:List UInt8)(i:Nat):G16 B i<65536:=by
 have h1:=((B[2*i]?).getD 0).toNat_lt
 have h2:=((B[2*i+1]?).getD 0).toNat_lt
 unfold G16;omega
theorem or8{x y:Nat}(hx:x<256)(hy:y<256):JE .or .u64 ((256*x:Nat):Int) (y:Int)=((256*x+y:Nat):Int):=by
 show((BitVec.ofInt 64 ((256*x:Nat):Int)|||BitVec.ofInt 64 (y:Int)).toNat:Int)=_
 rw[BitVec.toNat_or]
 have e1:(BitVec.ofInt 64 ((256*x:Nat):Int)).toNat=256*x:=by rw[BitVec.toNat_ofInt];omega
 have e2:(BitVec.ofInt 64 (y:Int)).toNat=y:=by rw[BitVec.toNat_ofInt];omega
 rw[e1,e2,show 256*x=2^8*x from rfl,←Nat.two_pow_add_eq_or_of_lt hy]
theorem shl8(x:UInt64)(h:x.toNat<256): ∃y:UInt64,(if((8:UInt64).toNat:Int)<0 then none else some (Co ((x.toNat:Int)*2^(min ((8:UInt64).toNat:Int).toNat 64))))=some y∧y.toNat=256*x.toNat:=by
 refine⟨_,if_neg (by decide),?_⟩
 rw[show((2:Int)^(min ((8:UInt64).toNat:Int).toNat 64))=256 from rfl,show(x.toNat:Int)*256=((256*x.toNat:Nat):Int) by omega,Kc (by omega)]
theorem sized2(x y:UInt8):Kq (.mk [x,y])=some true:=by
 unfold Kq;rfl
end Go.Proofs.YtobejhpigbllpaaGreatDoor.Am
namespace Go.Proofs.YtobejhpigbllpaaGreatDoor.Am
theorem vM{n a b:Nat}(h:a≤b)(h':b≤n):RO n (some (a:Int)) (some (b:Int))=some (a,b):=by
 simp[RO,h,h']
theorem vL{n a:Nat}(h:a≤n):RO n (some (a:Int)) none=some (a,n):=by
 simp[RO,h]
theorem ofBig2(x y:UInt8): ∃v:UInt64,Kr (.mk [x,y])=some (v,0)∧v.toNat=256*x.toNat+y.toNat:=by
 have hx:=x.toNat_lt
 have hy:=y.toNat_lt
 obtain⟨z0,f0,g0⟩:=shl8 0 (by decide)
 have hx64:=Kc (m:=x.toNat) (by omega)
 have hy64:=Kc (m:=y.toNat) (by omega)
 have v1:(Co (JE .or .u64 (z0.toNat:Int) ((Co (x.toNat:Int)).toNat:Int))).toNat=x.toNat:=by
  rw[hx64,g0,show(0:UInt64).toNat=0 from rfl,or8 (x:=0) (by decide) (by omega),Nat.mul_zero,Nat.zero_add,hx64]
 obtain⟨z1,f1,g1⟩:=shl8 (Co (JE .or .u64 (z0.toNat:Int) ((Co (x.toNat:Int)).toNat:Int))) (by omega)
 rw[v1]at g1
 refine⟨Co (JE .or .u64 (z1.toNat:Int) ((Co (y.toNat:Int)).toNat:Int)),?_,?_⟩
 ·unfold Kr
  rw[sized2,Option.bind_some,if_neg (by decide)]
  rw[OV (s':=(Co (JE .or .u64 (z0.toNat:Int) ((Co (x.toNat:Int)).toNat:Int)),1)),OV (s':=(Co (JE .or .u64 (z1.toNat:Int) ((Co (y.toNat:Int)).toNat:Int)),2)),S6 (b:= .inl (Co (JE .or .u64 (z1.toNat:Int) ((Co (y.toNat:Int)).toNat:Int))))]
  ·rfl
  ·rfl
  ·dsimp only
   rw[if_pos (by simp),show ES (GS.mk [x,y]).l 1=some y from rfl,Option.bind_some,f1]
   rfl
  ·dsimp only
   rw[if_pos (by simp),show ES (GS.mk [x,y]).l 0=some x from rfl,Option.bind_some,f0]
   rfl
 ·rw[hy64,g1,or8 (by omega) (by omega),Kc (by omega)]
theorem two_of{l:List UInt8}{i:Nat}(h:2*i+1<l.length):(l.drop (2*i)).take (2*i+2-2*i)=[(l[2*i]?).getD 0,(l[2*i+1]?).getD 0]:=by
 rw[show 2*i+2-2*i=2 by omega,List.drop_eq_getElem_cons (show 2*i<l.length by omega),List.drop_eq_getElem_cons h,List.getElem?_eq_getElem (show 2*i<l.length by omega),List.getElem?_eq_getElem h]
 rfl
def vals(B:List UInt8):List Nat:=(List.range 8).map (G16 B)
theorem SJ(B:Ar UInt8 16): ∃G:Ar UInt16 8,Ks B=some G∧G.l.map (·.toNat)=vals B.l:=by
 have hB:=B.len
 unfold Ks
 refine lB (fun s=>8-s.1.toNat) (fun s=> ∃i:Nat,s.1=i∧i≤8∧(s.2.l.take i).map (·.toNat)=(List.range i).map (G16 B.l)) (fun r=> ∃G:Ar UInt16 8,r= .inl G∧G.l.map (·.toNat)=vals B.l) ⟨0,rfl,by omega,rfl⟩ ?_ ?_
 ·rintro⟨s,A⟩ ⟨i,rfl,hi,hA⟩
  dsimp only at hA ⊢
  by_cases hlt:i<8
  ·left
   have w1:IntKind.i64.wrap (2*(i:Int))=((2*i:Nat):Int):=by rw[show 2*(i:Int)=((2*i:Nat):Int) by omega,Ca (by omega)]
   have w2:IntKind.i64.wrap (((2*i:Nat):Int)+2)=((2*i+2:Nat):Int):=by rw[show((2*i:Nat):Int)+2=((2*i+2:Nat):Int) by omega,Ca (by omega)]
   obtain⟨v,e,hv⟩:=ofBig2 ((B.l[2*i]?).getD 0) ((B.l[2*i+1]?).getD 0)
   have hg:=wD B.l i
   have hv':v.toNat=G16 B.l i:=hv
   rw[if_pos (by rw[decide_eq_true_eq];omega),w1,w2,vM (by omega) (by omega),Option.bind_some]
   dsimp only
   rw[if_pos (by omega),two_of (by omega),e,Option.bind_some,Gi hlt,Option.bind_some,if_pos hlt,Option.bind_some]
   refine⟨_,rfl,⟨i+1,?_,by omega,?_⟩,?_⟩
   ·dsimp only;rw[show(i:Int)+1=((i+1:Nat):Int) by omega,Ca (by omega)]
   ·dsimp only
    have:((A.set i (Vw (v.toNat:Int))).l.take (i+1))=A.l.take i++[Vw (v.toNat:Int)]:=kP (by rw[A.len];exact hlt) rfl
    rw[this,List.map_append,hA,List.range_succ,List.map_append,List.map_singleton,List.map_singleton,YQ (by omega),hv']
   ·dsimp only;rw[show(i:Int)+1=((i+1:Nat):Int) by omega,Ca (by omega)];omega
  ·right
   rw[if_neg (by rw[decide_eq_true_eq];omega)]
   refine⟨_,rfl,A,rfl,?_⟩
   obtain rfl:i=8:=by omega
   rw[List.take_of_length_le (by rw[A.len];omega)]at hA
   exact hA
 ·rintro _ ⟨G,rfl,hG⟩
  exact⟨G,rfl,hG⟩
def Ki:List Bool→Nat→Nat→Nat→Nat→Nat×Nat
 |[],_,p,z,_=>(p,z)
 |b::l,i,p,z,w=>if b then(if z<w+1 then Ki l (i+1) (i+1-(w+1)) (w+1) (w+1)else Ki l (i+1) p z (w+1))else Ki l (i+1) p z 0
def runL:List Bool→Nat
 |[]=>0
 |b::l=>if b then runL l+1 else 0
def runB(l:List Bool)(i:Nat):Nat:=runL (l.drop i)
def zB(l:List Bool):Nat→Nat→Nat→Nat→Nat×Nat
 |0,_,p,z=>(p,z)
 |k+1,i,p,z=>if z<runB l i then zB l k (i+1) i (runB l i)else zB l k (i+1) p z
theorem tG: ∀a b c d e f g h:Bool,Ki [a,b,c,d,e,f,g,h] 0 0 0 0=zB [a,b,c,d,e,f,g,h] 8 0 0 0∧(Ki [a,b,c,d,e,f,g,h] 0 0 0 0).1+(Ki [a,b,c,d,e,f,g,h] 0 0 0 0).2≤8:=by decide+kernel
theorem tH{l:List Bool}(h:l.length=8):Ki l 0 0 0 0=zB l 8 0 0 0∧(Ki l 0 0 0 0).1+(Ki l 0 0 0 0).2≤8:=by
 match l,h with
 |[a,b,c,d,e,f,g,h],_=>exact tG a b c d e f g h
def UG(l:List Nat):List Bool:=l.map fun n=>decide (n=0)
theorem cQ(G:Ar UInt16 8):Jj G=some (((Ki (UG (G.l.map (·.toNat))) 0 0 0 0).1:Int),((Ki (UG (G.l.map (·.toNat))) 0 0 0 0).2:Int)):=by
 have hG:=G.len
 unfold Jj
 refine CM (fun s=>8-s.2.2.2.toNat) (fun s=> ∃p z w i:Nat,s=((p:Int),(z:Int),(w:Int),(i:Int))∧i≤8∧w≤i∧Ki (UG (G.l.map (·.toNat))) 0 0 0 0=Ki ((UG (G.l.map (·.toNat))).drop i) i p z w)
  (fun r=>r= .inl (((Ki (UG (G.l.map (·.toNat))) 0 0 0 0).1:Int),((Ki (UG (G.l.map (·.toNat))) 0 0 0 0).2:Int))) ⟨0,0,0,0,rfl,by omega,by omega,rfl⟩ ?_ ?_
 ·rintro _ ⟨p,z,w,i,rfl,hi,hw,he⟩
  dsimp only
  by_cases hlt:i<8
  ·left
   have hz:(UG (G.l.map (·.toNat))).drop i=decide (G.l[i].toNat=0)::(UG (G.l.map (·.toNat))).drop (i+1):=by
    rw[List.drop_eq_getElem_cons (by simp[UG];omega)];simp[UG]
   rw[hz,Ki]at he
   rw[if_pos (by rw[decide_eq_true_eq];omega),Bu,List.getElem?_eq_getElem (show i<G.l.length by omega),Option.bind_some]
   have w1:IntKind.i64.wrap ((i:Int)+1)=((i+1:Nat):Int):=by rw[show(i:Int)+1=((i+1:Nat):Int) by omega,Ca (by omega)]
   have w2:IntKind.i64.wrap ((w:Int)+1)=((w+1:Nat):Int):=by rw[show(w:Int)+1=((w+1:Nat):Int) by omega,Ca (by omega)]
   rw[w1,w2]
   by_cases h0:G.l[i].toNat=0
   ·rw[if_neg (by rw[h0];decide)]
    rw[if_pos (by simpa using h0)]at he
    by_cases h1:z<w+1
    ·rw[if_pos (by rw[decide_eq_true_eq];omega)]
     rw[if_pos h1]at he
     have w3:IntKind.i64.wrap (((i+1:Nat):Int)-((w+1:Nat):Int))=((i+1-(w+1):Nat):Int):=by rw[show((i+1:Nat):Int)-((w+1:Nat):Int)=((i+1-(w+1):Nat):Int) by omega,Ca (by omega)]
     rw[w3]
     exact⟨_,rfl,⟨_,_,_,_,rfl,by omega,by omega,he⟩,by dsimp only;omega⟩
    ·rw[if_neg (by rw[decide_eq_true_eq];omega)]
     rw[if_neg h1]at he
     exact⟨_,rfl,⟨_,_,_,_,rfl,by omega,by omega,he⟩,by dsimp only;omega⟩
   ·rw[if_pos (by rw[show((0:UInt16).toNat:Int)=0 from rfl];simp;omega)]
    rw[if_neg (by simpa using h0)]at he
    exact⟨_,rfl,⟨p,z,0,_,rfl,by omega,by omega,he⟩,by dsimp only;omega⟩
  ·right
   rw[if_neg (by rw[decide_eq_true_eq];omega)]
   obtain rfl:i=8:=by omega
   rw[List.drop_of_length_le (by simp[UG,hG])]at he
   exact⟨_,rfl,by rw[he];rfl⟩
 ·rintro _ rfl;rfl
def LK(l:List Nat):AR:=CQ [58] (l.map Od)
theorem Mj(l:List Nat):(LK l).length≤6*l.length:=by
 unfold LK
 rw[KA]
 have:=UP (l:=l.map Od) (n:=5) (fun x hx=>by obtain⟨b,_,rfl⟩:=List.mem_map.1 hx;exact lM _)
 simp at this ⊢
 omega
theorem LX(g:GS UInt16)(hg:g.l.length≤8):KE g=some (LK (g.l.map (·.toNat))):=by
 unfold KE
 refine CM (fun s=>g.l.length-s.1.toNat) (fun s=> ∃i:Nat,s.1=i∧i≤g.l.length∧s.2=ZJ ((g.l.take i).map fun x=>Od x.toNat)) (fun r=>r= .inl (ZJ (g.l.map fun x=>Od x.toNat))) ⟨0,rfl,by omega,rfl⟩ ?_ ?_
 ·rintro⟨s,t⟩ ⟨i,rfl,hi,rfl⟩
  dsimp only
  by_cases hlt:i<g.l.length
  ·left
   rw[if_pos (by rw[decide_eq_true_eq];omega),Bu,List.getElem?_eq_getElem hlt,Option.bind_some,dS,Option.bind_some,K3 (by rw[Tt,List.length_map,List.length_take];unfold BR;omega),Option.bind_some]
   refine⟨_,rfl,⟨i+1,?_,by omega,?_⟩,?_⟩
   ·dsimp only;rw[show(i:Int)+1=((i+1:Nat):Int) by omega,Ca (by omega)]
   ·dsimp only;rw[Tt,List.take_succ_eq_append_getElem hlt,List.map_append,List.map_singleton,Rm]
   ·dsimp only;rw[show(i:Int)+1=((i+1:Nat):Int) by omega,Ca (by omega)];omega
  ·right
   rw[if_neg (by rw[decide_eq_true_eq];omega)]
   exact⟨_,rfl,by rw[List.take_of_length_le (by omega)]⟩
 ·rintro _ rfl
  dsimp only[Sum.elim_inl]
  have hl:=Mj (g.l.map (·.toNat))
  have he:(ZJ (g.l.map fun x=>Od x.toNat)).l=(g.l.map (·.toNat)).map Od:=by rw[Tt,List.map_map];rfl
  rw[List.length_map]at hl
  have hj:=dO (ZJ (g.l.map fun x=>Od x.toNat)) [58] (by rw[he];simp;omega) (by decide) (by rw[he];exact Nat.lt_of_le_of_lt hl (by omega))
  rw[hj,he];rfl
def SK(B:List UInt8):AR:=
 let v:=vals B
 let q:=Ki (UG v) 0 0 0 0
 if q.2<2 then LK v else LK (v.take q.1)++[58,58]++LK (v.drop (q.1+q.2))
theorem Jr(B:List UInt8):(vals B).length=8:=by simp[vals]
theorem wN(B:List UInt8): ∀n∈vals B,n<65536:=fun n hn=>by
 obtain⟨i,_,rfl⟩:=List.mem_map.1 hn;exact wD B i
theorem vB(B:List UInt8):(SK B).length≤100:=by
 unfold SK
 dsimp only
 split
 ·have:=Mj (vals B);rw[Jr]at this;omega
 ·rename_i h
  have h1:=Mj ((vals B).take (Ki (UG (vals B)) 0 0 0 0).1)
  have h2:=Mj ((vals B).drop ((Ki (UG (vals B)) 0 0 0 0).1+(Ki (UG (vals B)) 0 0 0 0).2))
  rw[List.length_take,Jr]at h1
  rw[List.length_drop,Jr]at h2
  simp only[List.length_append,List.length_cons,List.length_nil]
  omega
theorem jQ(B:Ar UInt8 16):Np B=some (SK B.l):=by
 obtain⟨G,e1,hG⟩:=SJ B
 have hGl:=G.len
 have e2:=cQ G
 rw[hG]at e2
 obtain⟨_,hq⟩:=tH (l:=UG (vals B.l)) (by simp[UG,Jr])
 unfold Np SK
 rw[e1,Option.bind_some,e2,Option.bind_some]
 dsimp only
 generalize Ki (UG (vals B.l)) 0 0 0 0=q at*
 obtain⟨p,z⟩:=q
 dsimp only at*
 by_cases h:z<2
 ·rw[if_pos (by rw[decide_eq_true_eq];omega),if_pos h,if_pos (by decide),List.drop_zero,List.take_of_length_le (by omega),LX _ (by simp;omega),E3,hG]
  rfl
 ·have hr1:=LX (.mk (G.l.take p)) (by simp;omega)
  have hr2:=LX (.mk (G.l.drop (p+z))) (by simp;omega)
  rw[E3,List.map_take,hG]at hr1
  rw[E3,List.map_drop,hG]at hr2
  have l1:=Mj ((vals B.l).take p)
  have l2:=Mj ((vals B.l).drop (p+z))
  rw[List.length_take,Jr]at l1
  rw[List.length_drop,Jr]at l2
  rw[if_neg (by rw[decide_eq_true_eq];omega),if_neg h,vJ (by omega),Option.bind_some,if_pos (by omega),List.drop_zero,hr1,Option.bind_some,if_pos (by simp;unfold BR;omega),Option.bind_some,
   show(p:Int)+(z:Int)=((p+z:Nat):Int) by omega,Ca (by omega),vL (by omega),Option.bind_some]
  dsimp only
  rw[if_pos (by omega),List.take_of_length_le (by rw[List.length_drop];omega),hr2,Option.bind_some,if_pos (by simp;unfold BR;omega)]
  rfl
end Go.Proofs.YtobejhpigbllpaaGreatDoor.Am
namespace Go.Proofs.YtobejhpigbllpaaGreatDoor.Am
abbrev zK:Ar UInt8 32:=(A2 32 T.u8).z
abbrev zE:AA:=Aq.z
abbrev zP:Ao:=Ah.z
def G6(a:A4):AR:=if Dl a=true then(if a.V=4 then QU (a.B.l.take 4)else SK a.B.l)else []
theorem Ph(a:A4):(G6 a).length≤100:=by
 unfold G6
 split
 ·split
  ·have:=XU (a.B.l.take 4);rw[List.length_take]at this;omega
  ·exact vB _
 ·simp
theorem Vl{a:A4}(h:Dl a=true)(h4: ¬a.V=4):a.V=6:=by
 unfold Dl at h
 rw[decide_eq_true_eq]at h
 rcases h with h|h
 ·exact h
 ·exact absurd h.1 h4
theorem YI(a:A4):KF a=some (G6 a):=by
 unfold KF G6
 rw[KW,Option.bind_some]
 by_cases h:Dl a=true
 ·rw[h,if_neg (by decide),if_pos rfl]
  by_cases h4:a.V=4
  ·rw[if_pos (by rw[decide_eq_true_eq];exact h4),if_pos h4]
   exact congrArg (fun x:Option AR=>x.bind fun y=>some y) (nH _)
  ·rw[if_neg (by rw[decide_eq_true_eq];exact h4),if_neg h4,jQ];rfl
 ·rw[if_neg h]
  have h':Dl a=false:=by simpa using h
  rw[h',if_pos (by decide)]
def My(e:AA):AR:=if Gx e=true then(if e.A.V=6 then [91]++G6 e.A++[93,58]++C3 e.Port.toNat else G6 e.A++[58]++C3 e.Port.toNat)else []
theorem oK(e:AA):(My e).length≤130:=by
 have h1:=Ph e.A
 have h2:=M5 e.Port.toNat
 unfold My
 split
 ·split<;>simp<;>omega
 ·simp
theorem Tf{e:AA}(h:Gx e=true):Dl e.A=true∧1≤e.Port∧e.Port≤65535:=by
 unfold Gx at h
 simpa [Bool.and_eq_true]using h
theorem cH{p:Int}(h:0≤p)(h':p<18446744073709551616):(Co p).toNat=p.toNat:=by
 have:=Kc (m:=p.toNat) (by omega)
 rwa [Int.toNat_of_nonneg h]at this
theorem oJ(e:AA):Jf e=some (My e):=by
 unfold Jf My
 have hl:=Ph e.A
 have hd:=M5 e.Port.toNat
 rw[Qk,Option.bind_some]
 by_cases h:Gx e=true
 ·obtain⟨hA,p1,p2⟩:=Tf h
  have hp:Dt (Co e.Port)=some (C3 e.Port.toNat):=by rw[Iv,cH (by omega) (by omega)]
  rw[h,if_neg (by decide),if_pos rfl,hp,Option.bind_some,W8,Option.bind_some,YI]
  have hw:(32:Int)<(Dk e.A:Int)↔e.A.V=6:=by
   unfold Dk
   rw[if_pos hA]
   by_cases h4:e.A.V=4
   ·rw[if_pos h4];omega
   ·rw[if_neg h4];have:=Vl hA h4;omega
  by_cases h6:e.A.V=6
  ·rw[if_pos (by rw[decide_eq_true_eq];exact hw.2 h6),if_pos h6,Option.bind_some,if_pos (by simp;unfold BR;omega),Option.bind_some,if_pos (by simp;unfold BR;omega),Option.bind_some,if_pos (by simp;unfold BR;omega)]
   rfl
  ·rw[if_neg (by rw[decide_eq_true_eq];exact fun g=>h6 (hw.1 g)),if_neg h6,Option.bind_some,if_pos (by simp;unfold BR;omega),Option.bind_some,if_pos (by simp;unfold BR;omega)]
   rfl
 ·rw[if_neg h]
  have h':Gx e=false:=by simpa using h
  rw[h',if_pos (by decide)]
def NP(p:Ao):AR:=if Gw p=true then G6 p.A++[47]++C3 p.Bits.toNat else []
theorem pF(p:Ao):(NP p).length≤130:=by
 have h1:=Ph p.A
 have h2:=M5 p.Bits.toNat
 unfold NP
 split
 ·simp;omega
 ·simp
theorem bW{p:Ao}(h:Gw p=true):0≤p.Bits∧p.Bits≤128:=by
 unfold Gw at h
 simp only[Bool.and_eq_true,decide_eq_true_eq]at h
 have:=Qy p.A
 omega
theorem pD(p:Ao):Pb p=some (NP p):=by
 unfold Pb NP
 have hl:=Ph p.A
 have hd:=M5 p.Bits.toNat
 rw[Nq,Option.bind_some]
 by_cases h:Gw p=true
 ·obtain⟨b1,b2⟩:=bW h
  have hp:Dt (Co p.Bits)=some (C3 p.Bits.toNat):=by rw[Iv,cH (by omega) (by omega)]
  rw[h,if_neg (by decide),if_pos rfl,YI,Option.bind_some,if_pos (by simp;unfold BR;omega),Option.bind_some,hp,Option.bind_some,if_pos (by simp;unfold BR;omega)]
  rfl
 ·rw[if_neg h]
  have h':Gw p=false:=by simpa using h
  rw[h',if_pos (by decide)]
theorem lI: ∀k:Fin 16,hd k.1≠10:=by decide+kernel
theorem zH(l:List UInt8):(10:UInt8)∉Kl l:=by
 intro h
 obtain⟨b,_,hb⟩:=List.mem_flatMap.1 h
 have hlt:=b.toNat_lt
 simp only[zJ,List.mem_cons,List.not_mem_nil,or_false]at hb
 rcases hb with hb|hb
 ·exact lI ⟨b.toNat/16,by omega⟩ hb.symm
 ·exact lI ⟨b.toNat%16,by omega⟩ hb.symm
theorem uY{k:Nat}(h:k<10):UInt8.ofNat (48+k)≠10:=by
 intro e
 have:=congrArg UInt8.toNat e
 rw[nat8 (by omega)]at this
 simp at this
 omega
theorem fO: ∀(k n:Nat),(10:UInt8)∉JB k n
 |0,_=>by simp[JB]
 |k+1,n=>by
  rw[JB]
  split
  ·rename_i h
   simp only[List.mem_singleton]
   exact fun e=>uY h e.symm
  ·simp only[List.mem_append,List.mem_singleton,not_or]
   exact⟨fO k _,fun e=>uY (Nat.mod_lt _ (by decide)) e.symm⟩
theorem Rz(n:Nat):(10:UInt8)∉C3 n:=fO 20 n
theorem VI{sep:AR}(hs:(10:UInt8)∉sep): ∀{l:List AR},(∀x∈l,(10:UInt8)∉x)→(10:UInt8)∉CQ sep l
 |[],_=>by simp[CQ]
 |[x],h=>h x (by simp)
 |x::y::r,h=>by
  simp only[CQ,List.mem_append,not_or]
  exact⟨⟨h x (by simp),hs⟩,VI hs fun z hz=>h z (by simp[hz])⟩
theorem lN: ∀(k n:Nat),(10:UInt8)∉O4 k n
 |0,_=>by simp[O4]
 |k+1,n=>by
  rw[O4]
  split
  ·rename_i h
   simp only[List.mem_singleton]
   exact fun e=>lI ⟨n,h⟩ e.symm
  ·simp only[List.mem_append,List.mem_singleton,not_or]
   exact⟨lN k _,fun e=>lI ⟨n%16,Nat.mod_lt _ (by decide)⟩ e.symm⟩
theorem Zo(l:List Nat):(10:UInt8)∉LK l:=VI (by decide) fun x hx=>by
 obtain⟨n,_,rfl⟩:=List.mem_map.1 hx;exact lN 5 n
theorem WA(a:A4):(10:UInt8)∉G6 a:=by
 unfold G6
 split
 ·split
  ·exact VI (by decide) fun x hx=>by obtain⟨n,_,rfl⟩:=List.mem_map.1 hx;exact Rz _
  ·unfold SK
   dsimp only
   split
   ·exact Zo _
   ·simp only[List.mem_append,not_or]
    exact⟨⟨Zo _,by decide⟩,Zo _⟩
 ·simp
theorem tX(e:AA):(10:UInt8)∉My e:=by
 unfold My
 split
 ·split
  ·simp only[List.mem_append,not_or];exact⟨⟨⟨by decide,WA _⟩,by decide⟩,Rz _⟩
  ·simp only[List.mem_append,not_or];exact⟨⟨WA _,by decide⟩,Rz _⟩
 ·simp
theorem vE(p:Ao):(10:UInt8)∉NP p:=by
 unfold NP
 split
 ·simp only[List.mem_append,not_or];exact⟨⟨WA _,by decide⟩,Rz _⟩
 ·simp
end Go.Proofs.YtobejhpigbllpaaGreatDoor.Am
namespace Go.Proofs.YtobejhpigbllpaaGreatDoor.Am
def HX(w:Nat):AR:=(oO.l[w]?).getD []
theorem Ci: ∀w:Fin 17,1≤w.1→FZ (w.1:Int)=some (HX w.1)∧HX w.1≠[]∧61∉HX w.1∧10∉HX w.1∧(HX w.1).length≤40:=by decide+kernel
def aY(f:An):AR:=
 if f.Word=1∨f.Word=5∨f.Word=8 then Kl f.Key.l else if f.Word=9 then My f.End else if f.Word=12 then NP f.P else C3 f.N.toNat
def HW(f:An):A0:=⟨HX f.Word.toNat,aY f⟩
def Vx(w:Int):Nat:=if w=2∨w=10 then 65535 else if w=3 then 4294967295 else if w=13 then 1 else if w=16 then 20 else 18446744073709551615
def Z2(w:Int):Nat:=if w=13 then 1 else 0
inductive XE:An→Prop where
 |key {w:Int} {K:Ar UInt8 32} (hw:w=1∨w=5∨w=8):XE ⟨w,K,0,zE,zP⟩
 |num {w:Int} {n:UInt64} (hw:w=2∨w=3∨w=10∨w=13∨w=14∨w=15∨w=16) (h1:Z2 w≤n.toNat) (h2:n.toNat≤Vx w):XE ⟨w,zK,n,zE,zP⟩
 |host {e:AA} (h:Gx e=true):XE ⟨9,zK,0,e,zP⟩
 |pre {p:Ao} (h:Gw p=true):XE ⟨12,zK,0,zE,p⟩
theorem IS(f:An):Fc f=some (Kl f.Key.l,true):=by
 unfold Fc;rw[tO];rfl
theorem Wl(f:An):Hz f=some (My f.End,Gx f.End):=by
 unfold Hz;rw[oJ,Qk];rfl
theorem RF(f:An):Gj f=some (NP f.P,Gw f.P):=by
 unfold Gj;rw[pD,Nq];rfl
theorem nD{w:Int}{K:Ar UInt8 32}(hw:w=1∨w=5∨w=8):F9 ⟨w,K,0,zE,zP⟩=some true:=by
 have hc:G7 C0 (⟨w,zK,0,zE,zP⟩:An) ⟨w,zK,0,zE,zP⟩=true:=JC rfl
 rcases hw with rfl|rfl|rfl
 ·have hn:=(Ci ⟨1,by decide⟩ (by decide)).1
  refine(congrArg (fun x:Option AR=>x.bind _) hn).trans ?_
  refine(congrArg (fun x:Option (AR×Bool)=>x.bind _) (IS ⟨1,K,0,zE,zP⟩)).trans ?_
  exact congrArg some hc
 ·have hn:=(Ci ⟨5,by decide⟩ (by decide)).1
  refine(congrArg (fun x:Option AR=>x.bind _) hn).trans ?_
  refine(congrArg (fun x:Option (AR×Bool)=>x.bind _) (IS ⟨5,K,0,zE,zP⟩)).trans ?_
  exact congrArg some hc
 ·have hn:=(Ci ⟨8,by decide⟩ (by decide)).1
  refine(congrArg (fun x:Option AR=>x.bind _) hn).trans ?_
  refine(congrArg (fun x:Option (AR×Bool)=>x.bind _) (IS ⟨8,K,0,zE,zP⟩)).trans ?_
  exact congrArg some hc
theorem G5{n lo hi:UInt64}(h1:lo.toNat≤n.toNat)(h2:n.toNat≤hi.toNat):De (decide ((lo.toNat:Int)≤(n.toNat:Int))) (some (decide ((n.toNat:Int)≤(hi.toNat:Int))))=some true:=by
 rw[decide_eq_true (Int.ofNat_le.2 h1),decide_eq_true (Int.ofNat_le.2 h2)];rfl
theorem nC{w:Int}{n:UInt64}(hw:w=2∨w=3∨w=10∨w=13∨w=14∨w=15∨w=16)(h1:Z2 w≤n.toNat)(h2:n.toNat≤Vx w):F9 ⟨w,zK,n,zE,zP⟩=some true:=by
 have hc:G7 C0 (⟨w,zK,0,zE,zP⟩:An) ⟨w,zK,0,zE,zP⟩=true:=JC rfl
 have hd:=Iv n
 rcases hw with rfl|rfl|rfl|rfl|rfl|rfl|rfl
 ·refine(congrArg (fun x:Option AR=>x.bind _) (Ci ⟨2,by decide⟩ (by decide)).1).trans ?_
  refine(congrArg (fun x:Option AR=>(x.bind _).bind _) hd).trans ?_
  refine(congrArg (fun x:Option Bool=>(x.bind fun y=>some (C3 n.toNat,y)).bind _) (G5 (n:=n) (lo:=0) (hi:=65535) h1 h2)).trans ?_
  exact congrArg some hc
 ·refine(congrArg (fun x:Option AR=>x.bind _) (Ci ⟨3,by decide⟩ (by decide)).1).trans ?_
  refine(congrArg (fun x:Option AR=>(x.bind _).bind _) hd).trans ?_
  refine(congrArg (fun x:Option Bool=>(x.bind fun y=>some (C3 n.toNat,y)).bind _) (G5 (n:=n) (lo:=0) (hi:=4294967295) h1 h2)).trans ?_
  exact congrArg some hc
 ·refine(congrArg (fun x:Option AR=>x.bind _) (Ci ⟨10,by decide⟩ (by decide)).1).trans ?_
  refine(congrArg (fun x:Option AR=>(x.bind _).bind _) hd).trans ?_
  refine(congrArg (fun x:Option Bool=>(x.bind fun y=>some (C3 n.toNat,y)).bind _) (G5 (n:=n) (lo:=0) (hi:=65535) h1 h2)).trans ?_
  exact congrArg some hc
 ·refine(congrArg (fun x:Option AR=>x.bind _) (Ci ⟨13,by decide⟩ (by decide)).1).trans ?_
  refine(congrArg (fun x:Option AR=>(x.bind _).bind _) hd).trans ?_
  refine(congrArg (fun x:Option Bool=>(x.bind fun y=>some (C3 n.toNat,y)).bind _) (G5 (n:=n) (lo:=1) (hi:=1) h1 h2)).trans ?_
  exact congrArg some hc
 ·refine(congrArg (fun x:Option AR=>x.bind _) (Ci ⟨14,by decide⟩ (by decide)).1).trans ?_
  refine(congrArg (fun x:Option AR=>(x.bind _).bind _) hd).trans ?_
  refine(congrArg (fun x:Option Bool=>(x.bind fun y=>some (C3 n.toNat,y)).bind _) (G5 (n:=n) (lo:=0) (hi:=18446744073709551615) h1 h2)).trans ?_
  exact congrArg some hc
 ·refine(congrArg (fun x:Option AR=>x.bind _) (Ci ⟨15,by decide⟩ (by decide)).1).trans ?_
  refine(congrArg (fun x:Option AR=>(x.bind _).bind _) hd).trans ?_
  refine(congrArg (fun x:Option Bool=>(x.bind fun y=>some (C3 n.toNat,y)).bind _) (G5 (n:=n) (lo:=0) (hi:=18446744073709551615) h1 h2)).trans ?_
  exact congrArg some hc
 ·refine(congrArg (fun x:Option AR=>x.bind _) (Ci ⟨16,by decide⟩ (by decide)).1).trans ?_
  refine(congrArg (fun x:Option AR=>(x.bind _).bind _) hd).trans ?_
  refine(congrArg (fun x:Option Bool=>(x.bind fun y=>some (C3 n.toNat,y)).bind _) (G5 (n:=n) (lo:=0) (hi:=20) h1 h2)).trans ?_
  exact congrArg some hc
theorem gV{e:AA}(h:Gx e=true):F9 ⟨9,zK,0,e,zP⟩=some true:=by
 have hc:G7 C0 (⟨9,zK,0,zE,zP⟩:An) ⟨9,zK,0,zE,zP⟩=true:=JC rfl
 have h2:=Wl ⟨9,zK,0,e,zP⟩
 dsimp only at h2
 rw[h]at h2
 refine(congrArg (fun x:Option AR=>x.bind _) (Ci ⟨9,by decide⟩ (by decide)).1).trans ?_
 refine(congrArg (fun x:Option (AR×Bool)=>x.bind _) h2).trans ?_
 exact congrArg some hc
theorem nB{p:Ao}(h:Gw p=true):F9 ⟨12,zK,0,zE,p⟩=some true:=by
 have hc:G7 C0 (⟨12,zK,0,zE,zP⟩:An) ⟨12,zK,0,zE,zP⟩=true:=JC rfl
 have h2:=RF ⟨12,zK,0,zE,p⟩
 dsimp only at h2
 rw[h]at h2
 refine(congrArg (fun x:Option AR=>x.bind _) (Ci ⟨12,by decide⟩ (by decide)).1).trans ?_
 refine(congrArg (fun x:Option (AR×Bool)=>x.bind _) h2).trans ?_
 exact congrArg some hc
theorem yI{f:An}(h:XE f):Fd f=some (HW f,0):=by
 cases h with
 | @key w K hw=>
  refine(congrArg (fun x:Option Bool=>x.bind _) (nD (K:=K) hw)).trans ?_
  rcases hw with rfl|rfl|rfl
  ·refine(congrArg (fun x:Option (AR×Bool)=>x.bind _) (IS ⟨1,K,0,zE,zP⟩)).trans ?_
   exact congrArg (fun x:Option AR=>x.bind fun y=>some ((⟨y,Kl K.l⟩:A0),0)) (Ci ⟨1,by decide⟩ (by decide)).1
  ·refine(congrArg (fun x:Option (AR×Bool)=>x.bind _) (IS ⟨5,K,0,zE,zP⟩)).trans ?_
   exact congrArg (fun x:Option AR=>x.bind fun y=>some ((⟨y,Kl K.l⟩:A0),0)) (Ci ⟨5,by decide⟩ (by decide)).1
  ·refine(congrArg (fun x:Option (AR×Bool)=>x.bind _) (IS ⟨8,K,0,zE,zP⟩)).trans ?_
   exact congrArg (fun x:Option AR=>x.bind fun y=>some ((⟨y,Kl K.l⟩:A0),0)) (Ci ⟨8,by decide⟩ (by decide)).1
 | @num w n hw h1 h2=>
  refine(congrArg (fun x:Option Bool=>x.bind _) (nC hw h1 h2)).trans ?_
  have hd:=Iv n
  rcases hw with rfl|rfl|rfl|rfl|rfl|rfl|rfl
  ·refine(congrArg (fun x:Option AR=>(x.bind _).bind _) hd).trans ?_
   refine(congrArg (fun x:Option Bool=>(x.bind fun y=>some (C3 n.toNat,y)).bind _) (G5 (n:=n) (lo:=0) (hi:=65535) h1 h2)).trans ?_
   exact congrArg (fun x:Option AR=>x.bind fun y=>some ((⟨y,C3 n.toNat⟩:A0),0)) (Ci ⟨2,by decide⟩ (by decide)).1
  ·refine(congrArg (fun x:Option AR=>(x.bind _).bind _) hd).trans ?_
   refine(congrArg (fun x:Option Bool=>(x.bind fun y=>some (C3 n.toNat,y)).bind _) (G5 (n:=n) (lo:=0) (hi:=4294967295) h1 h2)).trans ?_
   exact congrArg (fun x:Option AR=>x.bind fun y=>some ((⟨y,C3 n.toNat⟩:A0),0)) (Ci ⟨3,by decide⟩ (by decide)).1
  ·refine(congrArg (fun x:Option AR=>(x.bind _).bind _) hd).trans ?_
   refine(congrArg (fun x:Option Bool=>(x.bind fun y=>some (C3 n.toNat,y)).bind _) (G5 (n:=n) (lo:=0) (hi:=65535) h1 h2)).trans ?_
   exact congrArg (fun x:Option AR=>x.bind fun y=>some ((⟨y,C3 n.toNat⟩:A0),0)) (Ci ⟨10,by decide⟩ (by decide)).1
  ·refine(congrArg (fun x:Option AR=>(x.bind _).bind _) hd).trans ?_
   refine(congrArg (fun x:Option Bool=>(x.bind fun y=>some (C3 n.toNat,y)).bind _) (G5 (n:=n) (lo:=1) (hi:=1) h1 h2)).trans ?_
   exact congrArg (fun x:Option AR=>x.bind fun y=>some ((⟨y,C3 n.toNat⟩:A0),0)) (Ci ⟨13,by decide⟩ (by decide)).1
  ·refine(congrArg (fun x:Option AR=>(x.bind _).bind _) hd).trans ?_
   refine(congrArg (fun x:Option Bool=>(x.bind fun y=>some (C3 n.toNat,y)).bind _) (G5 (n:=n) (lo:=0) (hi:=18446744073709551615) h1 h2)).trans ?_
   exact congrArg (fun x:Option AR=>x.bind fun y=>some ((⟨y,C3 n.toNat⟩:A0),0)) (Ci ⟨14,by decide⟩ (by decide)).1
  ·refine(congrArg (fun x:Option AR=>(x.bind _).bind _) hd).trans ?_
   refine(congrArg (fun x:Option Bool=>(x.bind fun y=>some (C3 n.toNat,y)).bind _) (G5 (n:=n) (lo:=0) (hi:=18446744073709551615) h1 h2)).trans ?_
   exact congrArg (fun x:Option AR=>x.bind fun y=>some ((⟨y,C3 n.toNat⟩:A0),0)) (Ci ⟨15,by decide⟩ (by decide)).1
  ·refine(congrArg (fun x:Option AR=>(x.bind _).bind _) hd).trans ?_
   refine(congrArg (fun x:Option Bool=>(x.bind fun y=>some (C3 n.toNat,y)).bind _) (G5 (n:=n) (lo:=0) (hi:=20) h1 h2)).trans ?_
   exact congrArg (fun x:Option AR=>x.bind fun y=>some ((⟨y,C3 n.toNat⟩:A0),0)) (Ci ⟨16,by decide⟩ (by decide)).1
 | @host e h=>
  refine(congrArg (fun x:Option Bool=>x.bind _) (gV h)).trans ?_
  refine(congrArg (fun x:Option (AR×Bool)=>x.bind _) (Wl ⟨9,zK,0,e,zP⟩)).trans ?_
  exact congrArg (fun x:Option AR=>x.bind fun y=>some ((⟨y,My e⟩:A0),0)) (Ci ⟨9,by decide⟩ (by decide)).1
 | @pre p h=>
  refine(congrArg (fun x:Option Bool=>x.bind _) (nB h)).trans ?_
  refine(congrArg (fun x:Option (AR×Bool)=>x.bind _) (RF ⟨12,zK,0,zE,p⟩)).trans ?_
  exact congrArg (fun x:Option AR=>x.bind fun y=>some ((⟨y,NP p⟩:A0),0)) (Ci ⟨12,by decide⟩ (by decide)).1
theorem pS(f:An):(aY f).length≤130:=by
 unfold aY
 split
 ·rw[VN,f.Key.len];omega
 ·split
  ·exact oK _
  ·split
   ·exact pF _
   ·have:=M5 f.N.toNat;omega
theorem wO(f:An):(10:UInt8)∉aY f:=by
 unfold aY
 split
 ·exact zH _
 ·split
  ·exact tX _
  ·split
   ·exact vE _
   ·exact Rz _
theorem XE.word{f:An}(h:XE f): ∃w:Fin 17,1≤w.1∧f.Word=(w.1:Int):=by
 cases h with
 |key hw=>exact hw.elim (fun e=>⟨1,by decide,e⟩) (fun h=>h.elim (fun e=>⟨5,by decide,e⟩) (fun e=>⟨8,by decide,e⟩))
 |num hw _ _=>exact hw.elim (fun e=>⟨2,by decide,e⟩) (fun h=>h.elim (fun e=>⟨3,by decide,e⟩) (fun h=>h.elim (fun e=>⟨10,by decide,e⟩) (fun h=>h.elim (fun e=>⟨13,by decide,e⟩) (fun h=>h.elim (fun e=>⟨14,by decide,e⟩) (fun h=>h.elim (fun e=>⟨15,by decide,e⟩) (fun e=>⟨16,by decide,e⟩))))))
 |host _=>exact⟨9,by decide,rfl⟩
 |pre _=>exact⟨12,by decide,rfl⟩
theorem QL{f:An}(h:XE f):aP (E6 (HW f)) (HW f).Key (HW f).Value:=by
 obtain⟨w,h1,h2⟩:=h.word
 obtain⟨_,n1,n2,n3,n4⟩:=Ci w h1
 have hk:(HW f).Key=HX w.1:=by show HX f.Word.toNat=_;rw[h2];rfl
 have hv:=pS f
 have hn:=wO f
 have hval:(HW f).Value=aY f:=rfl
 refine⟨rfl,by rw[hk];exact n2,by rw[hk];exact n1,?_,?_⟩
 ·unfold E6
  rw[hk,hval]
  simp only[List.mem_append,List.mem_cons,not_or]
  exact⟨n3,by decide,hn⟩
 ·unfold E6
  rw[hk,hval]
  simp only[List.length_append,List.length_cons]
  omega
end Go.Proofs.YtobejhpigbllpaaGreatDoor.Am
namespace Go.Proofs.YtobejhpigbllpaaGreatDoor.Am
open Classical
theorem vD(x y:Ar UInt8 32):G7 (DT 32 BZ.u8) x y=decide (x=y):=
 if h:x=y then(JC (t:=A2 32 T.u8) h).trans (decide_eq_true h).symm else(UC (t:=A2 32 T.u8) h).trans (decide_eq_false h).symm
theorem eqK'(x y:Ar UInt8 32):M4 x y=true↔x=y:=by
 unfold M4;rw[vD,decide_eq_true_iff]
theorem eqP'(x y:Ao):Gv x y=true↔x=y:=by
 unfold Gv;simp only[fV,decide_eq_true_iff]
def tm{κ:Type}(l:List κ):List (κ×Bool):=l.map fun k=>(k,true)
theorem Z1{κ:Type}{e:κ→κ→Bool}(he: ∀x y,e x y=true↔x=y){k:κ}: ∀{l:List κ},k∈l→(QY e (tm l) k).getD false=true
 |x::l,hm=>by
  simp only[tm,List.map_cons,QY]
  by_cases h:k=x
  ·rw[(he k x).2 h];rfl
  ·have:e k x=false:=by simpa using fun g=>h ((he k x).1 g)
   rw[this,cond_false]
   exact Z1 he ((List.mem_cons.1 hm).resolve_left h)
theorem Vz{κ:Type}{e:κ→κ→Bool}(he: ∀x y,e x y=true↔x=y){k:κ}: ∀{l:List κ},k∉l→(QY e (tm l) k).getD false=false
 |[],_=>rfl
 |x::l,hm=>by
  simp only[tm,List.map_cons,QY]
  have h: ¬k=x:=fun e=>hm (by simp[e])
  have:e k x=false:=by simpa using fun g=>h ((he k x).1 g)
  rw[this,cond_false]
  exact Vz he fun g=>hm (by simp[g])
theorem Z0{κ:Type}{e:κ→κ→Bool}(he: ∀x y,e x y=true↔x=y){k:κ}: ∀{l:List κ},k∉l→QX e (tm l) k true=tm (l++[k])
 |[],_=>rfl
 |x::l,hm=>by
  simp only[tm,List.map_cons,List.cons_append,QX]
  have h: ¬k=x:=fun e=>hm (by simp[e])
  have:e k x=false:=by simpa using fun g=>h ((he k x).1 g)
  rw[this,cond_false]
  exact congrArg (fun r=>(x,true)::r) (Z0 he fun g=>hm (by simp[g]))
theorem tm_len{κ:Type}(l:List κ):(tm l).length=l.length:=by simp[tm]
def Pr(l:List Ao)(i:Nat):Prop:= ∃p,l[i]? =some p∧Gw p=true∧(0<i→ ∃q,l[i-1]? =some q∧Tm q p=true)
def PZ(l:List Ao):Prop:= ∀i,i<l.length→Pr l i
theorem Sv{l:List Ao}{i:Nat}(hi:i<l.length)(hl:l.length<4611686018427387904){f:Ao→Option Bool}{g:Ao→Ao→Option Bool}(hf: ∀p,f p=some (Gw p))(hg: ∀p q,g p q=some (Tm p q)):
  ((f l[i]).bind fun x10=>(HO (!x10) ((De (decide (0<(i:Int))) ((ES l (IntKind.i64.wrap ((i:Int)-1))).bind fun x14=>(g x14 l[i]).bind fun x17=>some (!x17))).bind fun x19=>some x19)))=some (!decide (Pr l i)):=by
 rw[hf]
 simp only[Option.bind_some]
 cases hr:Gw l[i]with
 |false=>
  have: ¬Pr l i:=by
   rintro⟨p,hp,h,_⟩
   rw[List.getElem?_eq_getElem hi]at hp
   cases hp
   rw[hr]at h;cases h
  simp[HO,this]
 |true=>
  simp only[Bool.not_true,HO,Bool.false_eq_true,if_false]
  by_cases h0:0<i
  ·have hw:IntKind.i64.wrap ((i:Int)-1)=((i-1:Nat):Int):=by rw[Pz (by omega) (by omega)];omega
   rw[decide_eq_true (show(0:Int)<(i:Int) by omega),hw,Bu,List.getElem?_eq_getElem (show i-1<l.length by omega)]
   simp only[De,if_true,Option.bind_some,hg]
   congr 1
   have:Pr l i↔Tm l[i-1] l[i]=true:=by
    constructor
    ·rintro⟨p,hp,_,h⟩
     rw[List.getElem?_eq_getElem hi]at hp;cases hp
     obtain⟨q,hq,h⟩:=h h0
     rw[List.getElem?_eq_getElem (show i-1<l.length by omega)]at hq;cases hq
     exact h
    ·intro h
     exact⟨_,List.getElem?_eq_getElem hi,hr,fun _=>⟨_,List.getElem?_eq_getElem (show i-1<l.length by omega),h⟩⟩
   by_cases h:Pr l i
   ·rw[this.1 h];simp[h]
   ·have h':Tm l[i-1] l[i]=false:=by simpa using fun g=>h (this.2 g)
    rw[h'];simp[h]
  ·have:Pr l i:=⟨_,List.getElem?_eq_getElem hi,hr,fun g=>absurd g h0⟩
   rw[decide_eq_false (show¬(0:Int)<(i:Int) by omega)]
   simp[De,this]
theorem gU(g:GS Ao)(hl:g.l.length<4611686018427387904):Lg g=some (decide (PZ g.l)):=by
 unfold Lg
 refine(bO (k:=0) (n:=g.l.length) (fun i=>if Pr g.l i then none else some false) (by omega) hl ?_ ?_).trans ?_
 rotate_left 2
 ·cases e:(List.range' 0 (g.l.length-0)).findSome? (fun i=>if Pr g.l i then none else some false)with
  |none=>
   simp only[Sum.elim_inl]
   have:PZ g.l:=fun i hi=>by
    have:=List.findSome?_eq_none_iff.1 e i (by rw[List.mem_range'_1];omega)
    by_cases h:Pr g.l i
    ·exact h
    ·simp[h]at this
   rw[decide_eq_true this]
  |some b=>
   obtain⟨i,hi,h'⟩:=List.exists_of_findSome?_eq_some e
   rw[List.mem_range'_1]at hi
   by_cases h:Pr g.l i
   ·simp[h]at h'
   ·simp only[h,if_false,Option.some.injEq]at h'
    subst h'
    have: ¬PZ g.l:=fun r=>h (r i (by omega))
    rw[decide_eq_false this];rfl
 ·intro i _ hi
  rw[if_pos (by simpa using hi),Bu,List.getElem?_eq_getElem hi]
  have ht:=Sv hi hl (f:=HR) (g:=M7) Nq pE
  simp only[Option.bind_some]
  rw[Nq]at ht ⊢
  simp only[Option.bind_some]at ht ⊢
  rw[ht]
  by_cases h:Pr g.l i<;>simp[h]
 ·rw[if_neg (by simp)]
def kH:Ar UInt8 32:=⟨[0,0,0,0,0,0,0,0,0,0,0,0,0,0,0,0,0,0,0,0,0,0,0,0,0,0,0,0,0,0,0,0],rfl⟩
def yX:AA:=⟨Ak.z,0⟩
def KM(n:Int):Prop:=0≤n∧n≤65535
theorem mX(n:Int):IJ n=some (decide (KM n)):=by
 unfold IJ KM
 by_cases h:0≤n<;>simp[De,h]
theorem uN(n:Int):Om n=some (decide (KM n)):=by
 unfold Om KM
 by_cases h:0≤n<;>simp[De,h]
def P8(e:AA):Prop:=e=yX∨Gx e=true
def KP(p:AI):Prop:=KM p.Keep∧P8 p.End∧PZ p.Allowed.l
def GB(l:List AI):List (Ar UInt8 32):=kH::l.map (·.Key)
def Ev(l:List AI):List Ao:=l.flatMap (·.Allowed.l)
def Good(l:List AI):Prop:=(∀p∈l,KP p)∧(GB l).Nodup∧(Ev l).Nodup
def F1(c:Be):Prop:=KM c.Port∧c.Peers.l.length≤16∧Good c.Peers.l∧(Ev c.Peers.l).length≤64
def PP(c:Be):Prop:=c.Peers.l.length≤20∧ ∀p∈c.Peers.l,p.Allowed.l.length≤80
theorem To(l:List AI)(p:AI):GB (l++[p])=GB l++[p.Key]:=by simp[GB]
theorem Qa(l:List AI)(p:AI):Ev (l++[p])=Ev l++p.Allowed.l:=by simp[Ev]
theorem KQ{α:Type}{l:List α}{x:α}:(l++[x]).Nodup↔l.Nodup∧x∉l:=by
 rw[List.nodup_append]
 constructor
 ·rintro⟨h1,_,h3⟩;exact⟨h1,fun h=>h3 x h x (by simp) rfl⟩
 ·rintro⟨h1,h2⟩
  refine⟨h1,by simp,fun a ha b hb e=> ?_⟩
  simp only[List.mem_singleton]at hb
  subst hb;subst e;exact h2 ha
theorem YN(l:List AI)(p:AI):Good (l++[p])↔Good l∧KP p∧p.Key∉GB l∧(Ev l++p.Allowed.l).Nodup:=by
 unfold Good
 rw[To,Qa,KQ]
 constructor
 ·rintro⟨h1,⟨h2,h3⟩,h4⟩
  exact⟨⟨fun q hq=>h1 q (by simp[hq]),h2,(List.nodup_append.1 h4).1⟩,h1 p (by simp),h3,h4⟩
 ·rintro⟨⟨h1,h2,_⟩,h3,h4,h5⟩
  refine⟨fun q hq=> ?_,⟨h2,h4⟩,h5⟩
  rcases List.mem_append.1 hq with hq|hq
  ·exact h1 q hq
  ·rw[List.mem_singleton.1 hq];exact h3
theorem Good.take{l:List AI}(h:Good l)(n:Nat):Good (l.take n):=by
 have e:l=l.take n++l.drop n:=(List.take_append_drop n l).symm
 unfold Good at h ⊢
 refine⟨fun p hp=>h.1 p (List.mem_of_mem_take hp),?_,?_⟩
 ·have:=h.2.1
  rw[e]at this
  simp only[GB,List.map_append,List.nodup_cons,List.mem_append,not_or,List.nodup_append]at this ⊢
  exact⟨this.1.1,this.2.1⟩
 ·have:=h.2.2
  rw[e]at this
  simp only[Ev,List.flatMap_append]at this
  exact(List.nodup_append.1 this).1
theorem cE{ρ:Type}{F:Int×List (Ao×Bool)→Option ((Int×List (Ao×Bool))⊕(List (Ao×Bool)⊕ρ))}(l:List Ao)(bad:ρ)
  (hF: ∀(k:Nat) (m:List (Ao×Bool)) (h:k<l.length),F ((k:Int),m)=if(QY Gv m l[k]).getD false=true then some (.inr (.inr bad))else some (.inl (((k+1:Nat):Int),QX Gv m l[k] true)))
  (hE: ∀m,F ((l.length:Int),m)=some (.inr (.inl m))) (o:List Ao) (ho:o.Nodup):iter F (0,tm o)=some (if(o++l).Nodup then .inl (tm (o++l))else .inr bad):=by
 refine dP (fun s:Int×List (Ao×Bool)=>l.length-s.1.toNat) (fun s:Int×List (Ao×Bool)=> ∃k:Nat,s.1=(k:Int)∧k≤l.length∧s.2=tm (o++l.take k)∧(o++l.take k).Nodup) ?_ ⟨0,rfl,by omega,by simp,by simpa using ho⟩
 rintro⟨s,m⟩ ⟨k,rfl,h1,h2,h3⟩
 dsimp only at h2 ⊢
 subst h2
 by_cases hk:k<l.length
 ·rw[hF k _ hk]
  have ht:l.take (k+1)=l.take k++[l[k]]:=List.take_succ_eq_append_getElem hk
  by_cases hm:l[k]∈o++l.take k
  ·right
   rw[if_pos (Z1 eqP' hm),if_neg]
   intro hn
   have e:o++l=(o++l.take k++[l[k]])++l.drop (k+1):=by
    rw[List.append_assoc o,←ht,List.append_assoc,List.take_append_drop]
   rw[e]at hn
   exact(KQ.1 (List.nodup_append.1 hn).1).2 hm
  ·left
   rw[if_neg (by rw[Vz eqP' hm];simp),Z0 eqP' hm]
   refine⟨_,rfl,⟨k+1,rfl,by omega,?_,?_⟩,by dsimp only;omega⟩
   ·rw[ht,List.append_assoc]
   ·rw[ht,←List.append_assoc,KQ];exact⟨h3,hm⟩
 ·obtain rfl:k=l.length:=by omega
  right
  rw[hE]
  rw[List.take_length]at h3 ⊢
  rw[if_pos h3]
theorem gL(c:Be)(hs:PP c):IK c=some (decide (F1 c)):=by
 have hlen:=hs.1
 unfold IK
 simp only[mX,Option.bind_some]
 by_cases hp:KM c.Port
 rotate_left
 ·have: ¬F1 c:=fun h=>hp h.1
  simp[HO,hp,this]
 by_cases h16:16<c.Peers.l.length
 ·have: ¬F1 c:=fun h=>by have:=h.2.1;omega
  have hd:decide (16<(c.Peers.l.length:Int))=true:=decide_eq_true (by omega)
  simp[HO,hp,this,hd]
 have hd:decide (16<(c.Peers.l.length:Int))=false:=decide_eq_false (by omega)
 have h0:QX M4 ([]:List ((Ar UInt8 32)×Bool)) (⟨[0,0,0,0,0,0,0,0,0,0,0,0,0,0,0,0,0,0,0,0,0,0,0,0,0,0,0,0,0,0,0,0],rfl⟩:(Ar UInt8 32)) true=tm (GB []):=rfl
 simp only[HO,hp,hd,decide_true,Bool.not_true,Bool.false_eq_true,if_false,Option.bind_some,h0]
 refine CM (fun s=>c.Peers.l.length-s.1.toNat) (fun s=> ∃n:Nat,s.1=(n:Int)∧n≤c.Peers.l.length∧s.2.1=tm (GB (c.Peers.l.take n))∧s.2.2=tm (Ev (c.Peers.l.take n))∧Good (c.Peers.l.take n))
  (fun r=>(r= .inl (tm (Ev c.Peers.l))∧Good c.Peers.l)∨(r= .inr false∧ ¬Good c.Peers.l)) ⟨0,rfl,by omega,rfl,rfl,by simp[Good,GB,Ev]⟩ ?_ ?_
 ·rintro⟨s,km,om⟩ ⟨n,rfl,h1,h2,h3,h4⟩
  dsimp only at h2 h3 ⊢
  subst h2 h3
  by_cases hn:n<c.Peers.l.length
  ·have hall:=hs.2 _ (List.getElem_mem hn)
   have ht:c.Peers.l.take (n+1)=c.Peers.l.take n++[c.Peers.l[n]]:=List.take_succ_eq_append_getElem hn
   have hg:=YN (c.Peers.l.take n) c.Peers.l[n]
   rw[←ht]at hg
   have bad: ¬(KP c.Peers.l[n]∧c.Peers.l[n].Key∉GB (c.Peers.l.take n)∧(Ev (c.Peers.l.take n)++c.Peers.l[n].Allowed.l).Nodup)→ ¬Good c.Peers.l:=fun hb hG=>hb (hg.1 (hG.take (n+1))).2
   rw[if_pos (by simpa using hn),Bu,List.getElem?_eq_getElem hn]
   simp only[Option.bind_some]
   by_cases hk:c.Peers.l[n].Key∈GB (c.Peers.l.take n)
   ·right
    refine⟨.inr false,?_, .inr ⟨rfl,bad fun h=>h.2.1 hk⟩⟩
    rw[Z1 eqK' hk]
    rfl
   rw[Vz eqK' hk]
   by_cases hkeep:KM c.Peers.l[n].Keep
   rotate_left
   ·right
    refine⟨.inr false,?_, .inr ⟨rfl,bad fun h=>hkeep h.1.1⟩⟩
    rw[decide_eq_false hkeep]
    rfl
   rw[decide_eq_true hkeep]
   simp only[Bool.not_true,Bool.false_eq_true,if_false,Option.bind_some]
   rw[gU _ (by omega)]
   by_cases hris:PZ c.Peers.l[n].Allowed.l
   rotate_left
   ·right
    refine⟨.inr false,?_, .inr ⟨rfl,bad fun h=>hris h.1.2.2⟩⟩
    rw[decide_eq_false hris]
    rfl
   rw[decide_eq_true hris]
   have hend:((ET c.Peers.l[n].End).bind fun x30=>(De (!x30) ((DK c.Peers.l[n].End).bind fun x33=>some (!x33))))=some (!decide (P8 c.Peers.l[n].End)):=by
    rw[Ym,Qk]
    simp only[Option.bind_some]
    by_cases e:c.Peers.l[n].End=⟨Ak.z,0⟩
    ·have:P8 c.Peers.l[n].End:= .inl e
     simp[De,e,this]
     exact .inl rfl
    ·have:P8 c.Peers.l[n].End↔Gx c.Peers.l[n].End=true:=⟨fun h=>h.resolve_left e, .inr⟩
     cases hr:Gx c.Peers.l[n].End with
     |true=>simp[De,e,this,hr]
     |false=>simp[De,e,this,hr]
   have hend': ∀{γ:Type} (K:Bool→Option γ),((ET c.Peers.l[n].End).bind fun x30=>(De (!x30) ((DK c.Peers.l[n].End).bind fun x33=>some (!x33))).bind K)=K (!decide (P8 c.Peers.l[n].End)):=fun K=>by
    have:=congrArg (fun x=>x.bind K) hend
    simpa only[Option.bind_assoc,Option.bind_some]using this
   simp only[Bool.not_true,Bool.false_eq_true,if_false,Option.bind_some]
   rw[hend']
   by_cases hE:P8 c.Peers.l[n].End
   rotate_left
   ·right
    refine⟨.inr false,?_, .inr ⟨rfl,bad fun h=>hE h.1.2.1⟩⟩
    rw[decide_eq_false hE]
    rfl
   rw[decide_eq_true hE]
   simp only[Bool.not_true,Bool.false_eq_true,if_false]
   have hw1:IntKind.i64.wrap ((n:Int)+1)=((n+1:Nat):Int):=by rw[show(n:Int)+1=((n+1:Nat):Int) by omega,Ca (by omega)]
   by_cases hN:(Ev (c.Peers.l.take n)++c.Peers.l[n].Allowed.l).Nodup
   ·left
    refine⟨(((n+1:Nat):Int),tm (GB (c.Peers.l.take (n+1))),tm (Ev (c.Peers.l.take (n+1)))),?_,⟨n+1,rfl,by omega,rfl,rfl,hg.2 ⟨h4,⟨hkeep,hE,hris⟩,hk,hN⟩⟩,by dsimp only;omega⟩
    refine(congrArg (fun x=>Option.bind x _) (cE c.Peers.l[n].Allowed.l (.inr (.inr false)) ?_ ?_ (Ev (c.Peers.l.take n)) h4.2.2)).trans ?_
    ·intro k m h
     dsimp only
     rw[if_pos (by simpa using h),Bu,List.getElem?_eq_getElem h,show(k:Int)+1=((k+1:Nat):Int) by omega,Ca (by omega)]
     rfl
    ·intro m
     dsimp only
     rw[if_neg (by simp)]
    ·rw[if_pos hN,hw1,Z0 eqK' hk,ht,To,Qa]
     rfl
   ·right
    refine⟨.inr false,?_, .inr ⟨rfl,bad fun h=>hN h.2.2⟩⟩
    refine(congrArg (fun x=>Option.bind x _) (cE c.Peers.l[n].Allowed.l (.inr (.inr false)) ?_ ?_ (Ev (c.Peers.l.take n)) h4.2.2)).trans ?_
    ·intro k m h
     dsimp only
     rw[if_pos (by simpa using h),Bu,List.getElem?_eq_getElem h,show(k:Int)+1=((k+1:Nat):Int) by omega,Ca (by omega)]
     rfl
    ·intro m
     dsimp only
     rw[if_neg (by simp)]
    ·rw[if_neg hN]
     rfl
  ·obtain rfl:n=c.Peers.l.length:=by omega
   right
   rw[if_neg (by simp)]
   rw[List.take_length]at h4 ⊢
   exact⟨_,rfl, .inl ⟨rfl,h4⟩⟩
 ·rintro _ (⟨rfl,hG⟩|⟨rfl,hG⟩)
  ·simp only[Sum.elim_inl,tm_len]
   congr 1
   rw[decide_eq_decide]
   constructor
   ·intro h;exact⟨hp,by omega,hG,by omega⟩
   ·intro h;have:=h.2.2.2;omega
  ·have: ¬F1 c:=fun h=>hG h.2.2.1
   simp[this]
theorem QI{α β ρ:Type}{l:List α}{x:α}{F:Int→Option (Int⊕(Unit⊕β))}{K:Unit⊕β→Option ρ}{b:β}(n:Nat)(hn:n≤l.length)(hl:l.length<4611686018427387904)
  (h1: ∀i (h:i<n),(l[i]'(by omega)=x→F (i:Int)=some (.inr (.inr b)))∧(l[i]'(by omega)≠x→F (i:Int)=some (.inl (IntKind.i64.wrap ((i:Int)+1))))) (h2:F (n:Int)=some (.inr (.inl ()))):
  (x∈l.take n→(iter F 0).bind K=K (.inr b))∧(x∉l.take n→(iter F 0).bind K=K (.inl ())):=by
 have key:=bO (F:=F) (K:=K) (k:=0) (n:=n) (fun i=>if l[i]? =some x then some b else none) (by omega) (by omega) (fun i _ hi=>by
  have hil:i<l.length:=by omega
  by_cases e:l[i]=x
  ·rw[(h1 i hi).1 e];simp[List.getElem?_eq_getElem hil,e]
  ·rw[(h1 i hi).2 e];simp[List.getElem?_eq_getElem hil,e]) h2
 have key':(iter F 0).bind K=_:=key
 rw[key']
 constructor
 ·intro hx
  cases e:(List.range' 0 (n-0)).findSome? (fun i=>if l[i]? =some x then some b else none)with
  |none=>
   obtain⟨i,hi,hg⟩:=List.getElem_of_mem hx
   rw[List.length_take]at hi
   have:=List.findSome?_eq_none_iff.1 e i (by rw[List.mem_range'_1];omega)
   rw[List.getElem_take]at hg
   rw[List.getElem?_eq_getElem (show i<l.length by omega),hg]at this
   simp at this
  |some c=>
   obtain⟨i,hi,h'⟩:=List.exists_of_findSome?_eq_some e
   split at h'
   ·cases h';rfl
   ·cases h'
 ·intro hx
  cases e:(List.range' 0 (n-0)).findSome? (fun i=>if l[i]? =some x then some b else none)with
  |none=>rfl
  |some c=>
   obtain⟨i,hi,h'⟩:=List.exists_of_findSome?_eq_some e
   rw[List.mem_range'_1]at hi
   split at h'
   ·rename_i hg
    obtain⟨hlt,hg⟩:=List.getElem?_eq_some_iff.1 hg
    exact absurd (List.mem_take_iff_getElem.2 ⟨i,by omega,hg⟩) hx
   ·cases h'
theorem QK{α β ρ:Type}{l:List α}{x:α}{F:Int→Option (Int⊕(Unit⊕β))}{K:Unit⊕β→Option ρ}{b:β}(hl:l.length<4611686018427387904)
  (h1: ∀i (h:i<l.length),(l[i]=x→F (i:Int)=some (.inr (.inr b)))∧(l[i]≠x→F (i:Int)=some (.inl (IntKind.i64.wrap ((i:Int)+1))))) (h2:F (l.length:Int)=some (.inr (.inl ()))):
  (x∈l→(iter F 0).bind K=K (.inr b))∧(x∉l→(iter F 0).bind K=K (.inl ())):=by
 have:=QI (l:=l) (x:=x) (K:=K) l.length (Nat.le_refl _) hl h1 h2
 rwa [List.take_length]at this
theorem Ya{ρ:Type}{F:Int×GS Ao→Option ((Int×GS Ao)⊕(GS Ao⊕ρ))}(l:List Ao)(bad:ρ)
  (hF: ∀(k:Nat) (m:List Ao) (h:k<l.length),m.length≤1700→F ((k:Int),ZJ m)=some (if Pr l k∧l[k]∉m then .inl (((k+1:Nat):Int),ZJ (m++[l[k]]))else .inr (.inr bad)))
  (hE: ∀m,F ((l.length:Int),m)=some (.inr (.inl m))) (o:List Ao) (ho:o.Nodup) (hb:o.length+l.length≤1700):iter F (0,ZJ o)=some (if PZ l∧(o++l).Nodup then .inl (ZJ (o++l))else .inr bad):=by
 refine dP (fun s=>l.length-s.1.toNat) (fun s=> ∃k:Nat,s.1=(k:Int)∧k≤l.length∧s.2=ZJ (o++l.take k)∧(o++l.take k).Nodup∧ ∀i,i<k→Pr l i) ?_ ⟨0,rfl,by omega,by simp,by simpa using ho,fun i hi=>by omega⟩
 rintro⟨s,m⟩ ⟨k,rfl,h1,h2,h3,h5⟩
 dsimp only at h2 ⊢
 subst h2
 by_cases hk:k<l.length
 ·rw[hF k _ hk (by rw[List.length_append,List.length_take];omega)]
  have ht:l.take (k+1)=l.take k++[l[k]]:=List.take_succ_eq_append_getElem hk
  by_cases hm:Pr l k∧l[k]∉o++l.take k
  ·left
   rw[if_pos hm]
   refine⟨_,rfl,⟨k+1,rfl,by omega,?_,?_,?_⟩,by dsimp only;omega⟩
   ·rw[ht,List.append_assoc]
   ·rw[ht,←List.append_assoc,KQ];exact⟨h3,hm.2⟩
   ·intro i hi
    rcases Nat.lt_or_ge i k with h|h
    ·exact h5 i h
    ·obtain rfl:i=k:=by omega
     exact hm.1
  ·right
   rw[if_neg hm,if_neg]
   rintro⟨hr,hn⟩
   refine hm ⟨hr k hk,fun hin=> ?_⟩
   have e:o++l=(o++l.take k++[l[k]])++l.drop (k+1):=by
    rw[List.append_assoc o,←ht,List.append_assoc,List.take_append_drop]
   rw[e]at hn
   exact(KQ.1 (List.nodup_append.1 hn).1).2 hin
 ·obtain rfl:k=l.length:=by omega
  right
  rw[hE]
  rw[List.take_length]at h3 ⊢
  rw[if_pos ⟨fun i hi=>h5 i hi,h3⟩]
theorem nO{l:List AI}{n:Nat}(h: ∀p∈l,p.Allowed.l.length≤n):(Ev l).length≤l.length*n:=by
 induction l with
 |nil=>simp[Ev]
 |cons p l ih=>
  have h1:=h p (by simp)
  have h2:=ih fun q hq=>h q (by simp[hq])
  simp only[Ev,List.flatMap_cons,List.length_append,List.length_cons,Nat.add_mul,Nat.one_mul]at h2 ⊢
  omega
theorem XS(c:Be)(hs:PP c):Ml c=some (decide (F1 c)):=by
 have hlen:=hs.1
 unfold Ml
 simp only[uN,Option.bind_some]
 by_cases hp:KM c.Port
 rotate_left
 ·have: ¬F1 c:=fun h=>hp h.1
  simp[HO,hp,this]
 by_cases h16:16<c.Peers.l.length
 ·have: ¬F1 c:=fun h=>by have:=h.2.1;omega
  have hd:decide (16<(c.Peers.l.length:Int))=true:=decide_eq_true (by omega)
  simp[HO,hp,this,hd]
 have hd:decide (16<(c.Peers.l.length:Int))=false:=decide_eq_false (by omega)
 simp only[HO,hp,hd,decide_true,Bool.not_true,Bool.false_eq_true,if_false,Option.bind_some]
 refine CM (fun s=>c.Peers.l.length-s.1.toNat) (fun s=> ∃n:Nat,s.1=(n:Int)∧n≤c.Peers.l.length∧s.2=ZJ (Ev (c.Peers.l.take n))∧Good (c.Peers.l.take n))
  (fun r=>(r= .inl (ZJ (Ev c.Peers.l))∧Good c.Peers.l)∨(r= .inr false∧ ¬Good c.Peers.l)) ⟨0,rfl,by omega,rfl,by simp[Good,GB,Ev]⟩ ?_ ?_
 ·rintro⟨s,om⟩ ⟨n,rfl,h1,h3,h4⟩
  dsimp only at h3 ⊢
  subst h3
  by_cases hn:n<c.Peers.l.length
  ·have hall:=hs.2 _ (List.getElem_mem hn)
   have ht:c.Peers.l.take (n+1)=c.Peers.l.take n++[c.Peers.l[n]]:=List.take_succ_eq_append_getElem hn
   have hg:=YN (c.Peers.l.take n) c.Peers.l[n]
   rw[←ht]at hg
   have bad: ¬(KP c.Peers.l[n]∧c.Peers.l[n].Key∉GB (c.Peers.l.take n)∧(Ev (c.Peers.l.take n)++c.Peers.l[n].Allowed.l).Nodup)→ ¬Good c.Peers.l:=fun hb hG=>hb (hg.1 (hG.take (n+1))).2
   have hkz:c.Peers.l[n].Key∈GB (c.Peers.l.take n)↔c.Peers.l[n].Key=kH∨c.Peers.l[n].Key∈(c.Peers.l.take n).map (·.Key):=by simp[GB]
   have hpl:(Ev (c.Peers.l.take n)).length≤1600:=by
    have:=nO (l:=c.Peers.l.take n) (n:=80) fun p hp=>hs.2 p (List.mem_of_mem_take hp)
    rw[List.length_take]at this
    have h2:min n c.Peers.l.length*80≤20*80:=Nat.mul_le_mul_right _ (by omega)
    omega
   have hw1:IntKind.i64.wrap ((n:Int)+1)=((n+1:Nat):Int):=by rw[show(n:Int)+1=((n+1:Nat):Int) by omega,Ca (by omega)]
   rw[if_pos (by simpa using hn),Bu,List.getElem?_eq_getElem hn]
   simp only[Option.bind_some,vD]
   have hz:(⟨[0,0,0,0,0,0,0,0,0,0,0,0,0,0,0,0,0,0,0,0,0,0,0,0,0,0,0,0,0,0,0,0],rfl⟩:(Ar UInt8 32))=kH:=rfl
   rw[hz]
   by_cases hk0:c.Peers.l[n].Key=kH
   ·right
    refine⟨.inr false,?_, .inr ⟨rfl,bad fun h=>h.2.1 (hkz.2 (.inl hk0))⟩⟩
    rw[decide_eq_true hk0]
    rfl
   rw[decide_eq_false hk0]
   by_cases hkeep:KM c.Peers.l[n].Keep
   rotate_left
   ·right
    refine⟨.inr false,?_, .inr ⟨rfl,bad fun h=>hkeep h.1.1⟩⟩
    rw[decide_eq_false hkeep]
    rfl
   rw[decide_eq_true hkeep]
   have hend: ∀{γ:Type} (K:Bool→Option γ),((De (!(G7 Du c.Peers.l[n].End (⟨Ak.z,0⟩:AA))) ((Mm c.Peers.l[n].End).bind fun x29=>some (!x29))).bind K)=K (!decide (P8 c.Peers.l[n].End)):=fun K=>by
    simp only[cmpE,nG,Option.bind_some]
    by_cases e:c.Peers.l[n].End=⟨Ak.z,0⟩
    ·have:P8 c.Peers.l[n].End:= .inl e
     rw[decide_eq_true e,decide_eq_true this];rfl
    ·have:P8 c.Peers.l[n].End↔Gx c.Peers.l[n].End=true:=⟨fun h=>h.resolve_left e, .inr⟩
     rw[decide_eq_false e]
     cases hr:Gx c.Peers.l[n].End with
     |true=>rw[decide_eq_true (this.2 hr)];rfl
     |false=>rw[decide_eq_false (fun h=>by rw[this.1 h]at hr;cases hr)];rfl
   simp only[Bool.not_true,Bool.false_eq_true,if_false,Option.bind_some]
   rw[hend]
   by_cases hE:P8 c.Peers.l[n].End
   rotate_left
   ·right
    refine⟨.inr false,?_, .inr ⟨rfl,bad fun h=>hE h.1.2.1⟩⟩
    rw[decide_eq_false hE]
    rfl
   rw[decide_eq_true hE]
   simp only[Bool.not_true,Bool.false_eq_true,if_false,Option.bind_some]
   have hmem:c.Peers.l[n].Key∈(c.Peers.l.map (·.Key)).take n↔c.Peers.l[n].Key∈(c.Peers.l.take n).map (·.Key):=by rw[List.map_take]
   by_cases hk1:c.Peers.l[n].Key∈(c.Peers.l.map (·.Key)).take n
   ·right
    refine⟨.inr false,?_, .inr ⟨rfl,bad fun h=>h.2.1 (hkz.2 (.inr (hmem.1 hk1)))⟩⟩
    refine((QI (l:=c.Peers.l.map (·.Key)) (b:= .inr (.inr false)) n (by rw[List.length_map];omega) (by rw[List.length_map];omega) ?_ ?_).1 hk1).trans ?_
    ·intro i hi
     rw[if_pos (by rw[decide_eq_true_eq];omega),Bu,List.getElem?_eq_getElem (show i<c.Peers.l.length by omega),List.getElem_map]
     simp only[Option.bind_some]
     exact⟨fun e=>by rw[if_pos (decide_eq_true e)];rfl,fun e=>by rw[if_neg (by rw[decide_eq_false e];simp)]⟩
    ·rw[if_neg (by rw[decide_eq_true_eq];omega)]
    ·rfl
   have hk:c.Peers.l[n].Key∉GB (c.Peers.l.take n):=fun h=>(hkz.1 h).elim hk0 fun h=>hk1 (hmem.2 h)
   by_cases hN:PZ c.Peers.l[n].Allowed.l∧(Ev (c.Peers.l.take n)++c.Peers.l[n].Allowed.l).Nodup
   ·left
    refine⟨(((n+1:Nat):Int),ZJ (Ev (c.Peers.l.take (n+1)))),?_,⟨n+1,rfl,by omega,rfl,hg.2 ⟨h4,⟨hkeep,hE,hN.1⟩,hk,hN.2⟩⟩,by dsimp only;omega⟩
    refine((QI (l:=c.Peers.l.map (·.Key)) (b:= .inr (.inr false)) n (by rw[List.length_map];omega) (by rw[List.length_map];omega) ?_ ?_).2 hk1).trans ?_
    ·intro i hi
     rw[if_pos (by rw[decide_eq_true_eq];omega),Bu,List.getElem?_eq_getElem (show i<c.Peers.l.length by omega),List.getElem_map]
     simp only[Option.bind_some]
     exact⟨fun e=>by rw[if_pos (decide_eq_true e)];rfl,fun e=>by rw[if_neg (by rw[decide_eq_false e];simp)]⟩
    ·rw[if_neg (by rw[decide_eq_true_eq];omega)]
    ·dsimp only[Sum.elim_inl]
     refine(congrArg (fun x=>Option.bind x _) (Ya c.Peers.l[n].Allowed.l (.inr (.inr false)) ?_ ?_ (Ev (c.Peers.l.take n)) h4.2.2 (by omega))).trans ?_
     ·intro k m h hm
      have hgl:=Tt m
      have htst:=Sv h (by omega) (f:=K5) (g:=Mn) OL bY
      dsimp only
      rw[if_pos (by simpa using h),Bu,List.getElem?_eq_getElem h,Option.bind_some]
      simp only[HO]at htst
      rw[OL]at htst ⊢
      simp only[Option.bind_some]at htst ⊢
      rw[htst]
      by_cases hok:Pr c.Peers.l[n].Allowed.l k
      ·rw[decide_eq_true hok]
       simp only[Option.bind_some,Bool.not_true,Bool.false_eq_true,if_false]
       by_cases hin:c.Peers.l[n].Allowed.l[k]∈m
       ·rw[if_neg (fun h=>h.2 hin)]
        refine((QK (l:=m) (x:=c.Peers.l[n].Allowed.l[k]) (b:=(Sum.inr (Sum.inr (Sum.inr (Sum.inr false))):(Int×GS Ao)⊕(GS Ao⊕((Int×GS Ao)⊕(GS Ao⊕Bool))))) (by omega) ?_ ?_).1 hin).trans ?_
        skip
        ·intro i hi
         rw[if_pos (by rw[decide_eq_true_eq,hgl];omega),Gi (by rw[hgl];exact hi),Option.bind_some,hgl,List.getElem?_eq_getElem hi]
         simp only[Option.map_some,Option.bind_some,fV]
         exact⟨fun e=>by rw[if_pos (decide_eq_true e)],fun e=>by rw[if_neg (by rw[decide_eq_false e];simp)]⟩
        ·rw[if_neg (by rw[decide_eq_true_eq,hgl];omega)]
        ·rfl
       ·rw[if_pos ⟨hok,hin⟩]
        refine((QK (l:=m) (x:=c.Peers.l[n].Allowed.l[k]) (b:=(Sum.inr (Sum.inr (Sum.inr (Sum.inr false))):(Int×GS Ao)⊕(GS Ao⊕((Int×GS Ao)⊕(GS Ao⊕Bool))))) (by omega) ?_ ?_).2 hin).trans ?_
        skip
        ·intro i hi
         rw[if_pos (by rw[decide_eq_true_eq,hgl];omega),Gi (by rw[hgl];exact hi),Option.bind_some,hgl,List.getElem?_eq_getElem hi]
         simp only[Option.map_some,Option.bind_some,fV]
         exact⟨fun e=>by rw[if_pos (decide_eq_true e)],fun e=>by rw[if_neg (by rw[decide_eq_false e];simp)]⟩
        ·rw[if_neg (by rw[decide_eq_true_eq,hgl];omega)]
        ·dsimp only[Sum.elim_inl]
         rw[K3 (by rw[hgl];unfold BR;omega),show(k:Int)+1=((k+1:Nat):Int) by omega,Ca (by omega),hgl,Rm]
         rfl
      ·rw[decide_eq_false hok,if_neg (fun h=>hok h.1)]
       rfl
     ·intro m
      dsimp only
      rw[if_neg (by simp)]
     ·rw[if_pos hN,hw1,ht,Qa]
      rfl
   ·right
    refine⟨.inr false,?_, .inr ⟨rfl,bad fun h=>hN ⟨h.1.2.2,h.2.2⟩⟩⟩
    refine((QI (l:=c.Peers.l.map (·.Key)) (b:= .inr (.inr false)) n (by rw[List.length_map];omega) (by rw[List.length_map];omega) ?_ ?_).2 hk1).trans ?_
    ·intro i hi
     rw[if_pos (by rw[decide_eq_true_eq];omega),Bu,List.getElem?_eq_getElem (show i<c.Peers.l.length by omega),List.getElem_map]
     simp only[Option.bind_some]
     exact⟨fun e=>by rw[if_pos (decide_eq_true e)];rfl,fun e=>by rw[if_neg (by rw[decide_eq_false e];simp)]⟩
    ·rw[if_neg (by rw[decide_eq_true_eq];omega)]
    ·dsimp only[Sum.elim_inl]
     refine(congrArg (fun x=>Option.bind x _) (Ya c.Peers.l[n].Allowed.l (.inr (.inr false)) ?_ ?_ (Ev (c.Peers.l.take n)) h4.2.2 (by omega))).trans ?_
     ·intro k m h hm
      have hgl:=Tt m
      have htst:=Sv h (by omega) (f:=K5) (g:=Mn) OL bY
      dsimp only
      rw[if_pos (by simpa using h),Bu,List.getElem?_eq_getElem h,Option.bind_some]
      simp only[HO]at htst
      rw[OL]at htst ⊢
      simp only[Option.bind_some]at htst ⊢
      rw[htst]
      by_cases hok:Pr c.Peers.l[n].Allowed.l k
      ·rw[decide_eq_true hok]
       simp only[Option.bind_some,Bool.not_true,Bool.false_eq_true,if_false]
       by_cases hin:c.Peers.l[n].Allowed.l[k]∈m
       ·rw[if_neg (fun h=>h.2 hin)]
        refine((QK (l:=m) (x:=c.Peers.l[n].Allowed.l[k]) (b:=(Sum.inr (Sum.inr (Sum.inr (Sum.inr false))):(Int×GS Ao)⊕(GS Ao⊕((Int×GS Ao)⊕(GS Ao⊕Bool))))) (by omega) ?_ ?_).1 hin).trans ?_
        skip
        ·intro i hi
         rw[if_pos (by rw[decide_eq_true_eq,hgl];omega),Gi (by rw[hgl];exact hi),Option.bind_some,hgl,List.getElem?_eq_getElem hi]
         simp only[Option.map_some,Option.bind_some,fV]
         exact⟨fun e=>by rw[if_pos (decide_eq_true e)],fun e=>by rw[if_neg (by rw[decide_eq_false e];simp)]⟩
        ·rw[if_neg (by rw[decide_eq_true_eq,hgl];omega)]
        ·rfl
       ·rw[if_pos ⟨hok,hin⟩]
        refine((QK (l:=m) (x:=c.Peers.l[n].Allowed.l[k]) (b:=(Sum.inr (Sum.inr (Sum.inr (Sum.inr false))):(Int×GS Ao)⊕(GS Ao⊕((Int×GS Ao)⊕(GS Ao⊕Bool))))) (by omega) ?_ ?_).2 hin).trans ?_
        skip
        ·intro i hi
         rw[if_pos (by rw[decide_eq_true_eq,hgl];omega),Gi (by rw[hgl];exact hi),Option.bind_some,hgl,List.getElem?_eq_getElem hi]
         simp only[Option.map_some,Option.bind_some,fV]
         exact⟨fun e=>by rw[if_pos (decide_eq_true e)],fun e=>by rw[if_neg (by rw[decide_eq_false e];simp)]⟩
        ·rw[if_neg (by rw[decide_eq_true_eq,hgl];omega)]
        ·dsimp only[Sum.elim_inl]
         rw[K3 (by rw[hgl];unfold BR;omega),show(k:Int)+1=((k+1:Nat):Int) by omega,Ca (by omega),hgl,Rm]
         rfl
      ·rw[decide_eq_false hok,if_neg (fun h=>hok h.1)]
       rfl
     ·intro m
      dsimp only
      rw[if_neg (by simp)]
     ·rw[if_neg hN]
      rfl
  ·obtain rfl:n=c.Peers.l.length:=by omega
   right
   rw[if_neg (by simp)]
   rw[List.take_length]at h4 ⊢
   exact⟨_,rfl, .inl ⟨rfl,h4⟩⟩
 ·rintro _ (⟨rfl,hG⟩|⟨rfl,hG⟩)
  ·simp only[Sum.elim_inl,Tt]
   congr 1
   rw[decide_eq_decide]
   constructor
   ·intro h;exact⟨hp,by omega,hG,by omega⟩
   ·intro h;have:=h.2.2.2;omega
  ·have: ¬F1 c:=fun h=>hG h.2.2.1
   simp[this]
end Go.Proofs.YtobejhpigbllpaaGreatDoor.Am
namespace Go.Proofs.YtobejhpigbllpaaGreatDoor.Am
theorem cL{σ β:Type}(n:Nat)(S:Nat→σ){F:σ→Option (σ⊕β)}{r:β}{s:σ}(h0:s=S 0)(h1: ∀i,i<n→F (S i)=some (.inl (S (i+1))))(h2:F (S n)=some (.inr r)):iter F s=some r:=by
 subst h0
 have key: ∀k,k≤n→iter F (S (n-k))=some r:=by
  intro k
  induction k with
  |zero=>intro _;exact S6 h2
  |succ k ih=>
   intro hk
   rw[OV (h1 (n-(k+1)) (by omega)),show n-(k+1)+1=n-k by omega]
   exact ih (by omega)
 have:=key n (Nat.le_refl _)
 rwa [Nat.sub_self]at this
theorem W6{α:Type}{bytes:Nat}{l m:List α}(h:(l.length+m.length)*bytes≤BR):W7 bytes (GS.mk l) m=some (.mk (l++m)):=by
 unfold W7
 rw[E3,if_pos h]
 rfl
abbrev fK(w:Int)(K:Ar UInt8 32):An:=⟨w,K,0,zE,zP⟩
abbrev fN(w:Int)(n:UInt64):An:=⟨w,zK,n,zE,zP⟩
abbrev fE(e:AA):An:=⟨9,zK,0,e,zP⟩
abbrev fP(p:Ao):An:=⟨12,zK,0,zE,p⟩
def SI(p:AI):List An:=[fK 5 p.Key,fK 8 p.Psk,fN 13 1]++if p.End=yX then []else [fE p.End]
def O2(p:AI):List An:=SI p++[fN 14 p.Sent,fN 15 p.Got,fN 10 (Co p.Keep)]
def Cl(p:AI):List An:=O2 p++p.Allowed.l.map fP
def Rk(c:Be):List An:=[fK 1 c.Private,fN 2 (Co c.Port),fN 3 (Co (c.Mark.toNat:Int))]
def DC(c:Be):List An:=Rk c++c.Peers.l.flatMap Cl
theorem fH(p:AI):(SI p).length≤4:=by unfold SI;split<;>simp
theorem Yo(p:AI):(O2 p).length≤7:=by
 have:=fH p;unfold O2;simp only[List.length_append,List.length_cons,List.length_nil];omega
theorem Tx(p:AI):(Cl p).length≤7+p.Allowed.l.length:=by
 have:=Yo p;unfold Cl;simp only[List.length_append,List.length_map];omega
theorem Yw: ∀l:List AI,(l.flatMap Cl).length≤7*l.length+(Ev l).length
 |[]=>by simp
 |p::l=>by
  have h1:=Yw l
  have h2:=Tx p
  simp only[List.flatMap_cons,List.length_append,List.length_cons,Ev]at h1 ⊢
  omega
theorem mT(l:List AI)(i:Nat):((l.take i).flatMap Cl).length≤(l.flatMap Cl).length:=by
 conv=>rhs;rw[←List.take_append_drop i l,List.flatMap_append,List.length_append]
 omega
theorem jC{α β:Type}(f:α→List β)(l:List α){i:Nat}(h:i<l.length):(l.take (i+1)).flatMap f=(l.take i).flatMap f++f l[i]:=by
 rw[List.take_succ_eq_append_getElem h,List.flatMap_append];simp
theorem map_take{α β:Type}(f:α→β)(l:List α){i:Nat}(h:i<l.length):(l.take (i+1)).map f=(l.take i).map f++[f l[i]]:=by
 rw[List.take_succ_eq_append_getElem h,List.map_append];rfl
theorem rA(p:AI)(h:p.Allowed.l.length≤1000):J7 p=some (.mk (Cl p)):=by
 have hl: ∀q:GS An,q= .mk (SI p)→(W7 112 q [fN 14 p.Sent,fN 15 p.Got,fN 10 (Co p.Keep)])=some (.mk (O2 p)):=by
  rintro _ rfl
  have:=fH p
  rw[W6 (by unfold BR;simp only[List.length_cons,List.length_nil];omega)]
  rfl
 unfold J7
 refine(congrArg (fun x:Option Bool=>x.bind _) (Ym p.End)).trans ?_
 have he:(if(!decide (p.End=(⟨Ak.z,0⟩:AA)))=true then(W7 112 (GS.mk [fK 5 p.Key,fK 8 p.Psk,fN 13 1]) [fE p.End]).bind fun x38=>some (.inl x38)else some (.inl (GS.mk [fK 5 p.Key,fK 8 p.Psk,fN 13 1])):Option (GS An⊕GS An))=some (.inl (.mk (SI p))):=by
  by_cases hn:p.End=yX
  ·have hn':p.End=(⟨Ak.z,0⟩:AA):=hn
   rw[if_neg (by rw[decide_eq_true hn'];decide)]
   unfold SI
   rw[if_pos hn]
   rfl
  ·have hn': ¬p.End=(⟨Ak.z,0⟩:AA):=hn
   rw[if_pos (by rw[decide_eq_false hn'];rfl),W6 (by unfold BR;simp only[List.length_cons,List.length_nil];omega)]
   unfold SI
   rw[if_neg hn]
   rfl
 refine(congrArg (fun x:Option (GS An⊕GS An)=>x.bind _) he).trans ?_
 refine(congrArg (fun x:Option (GS An)=>x.bind _) (hl _ rfl)).trans ?_
 have hh:=Yo p
 have hi:(iter _ ((0:Int),GS.mk (O2 p)):Option (GS An⊕GS An))=some (.inl (.mk (Cl p))):=
  cL (F:=fun s23:Int×GS An=>(if(decide (s23.1<(p.Allowed.l.length:Int)))=true then
   (ES p.Allowed.l s23.1).bind fun x26=>(W7 112 s23.2 [fP x26]).bind fun x33=>some (.inl (IntKind.i64.wrap (s23.1+1),x33))else some (.inr (.inl s23.2)):Option ((Int×GS An)⊕(GS An⊕GS An))))
   p.Allowed.l.length (fun i=>((i:Int),GS.mk (O2 p++(p.Allowed.l.take i).map fP))) (by simp) (by
   intro i hi
   dsimp only
   rw[if_pos (by simpa using hi),Bu,List.getElem?_eq_getElem hi,Option.bind_some,W6 (by unfold BR;simp only[List.length_append,List.length_map,List.length_take,List.length_cons,List.length_nil];omega),Option.bind_some,map_take fP _ hi,show(i:Int)+1=((i+1:Nat):Int) by omega,Ca (by omega),List.append_assoc]) (by
   dsimp only
   rw[if_neg (by simp),List.take_length];first|done|rfl)
 exact(congrArg (fun x:Option (GS An⊕GS An)=>x.bind _) hi).trans rfl
theorem nN{l:List AI}{p:AI}(h:p∈l):p.Allowed.l.length≤(Ev l).length:=by
 induction l with
 |nil=>cases h
 |cons q l ih=>
  simp only[Ev,List.flatMap_cons,List.length_append]at ih ⊢
  rcases List.mem_cons.1 h with rfl|h
  ·omega
  ·have:=ih h;omega
theorem ZN{c:Be}(h:F1 c):(c.Peers.l.flatMap Cl).length≤176:=by
 have:=Yw c.Peers.l
 have h1:=h.2.1
 have h2:=h.2.2.2
 omega
def txF(l:List An):AR:=OH (l.map fun f=>E6 (HW f))
theorem XI{n:Int}(h:KM n):(Co n).toNat≤65535:=by
 obtain⟨m,rfl⟩: ∃m:Nat,n=m:=⟨n.toNat,by have:=h.1;omega⟩
 have:=h.2
 rw[gN (by omega)];omega
theorem yR{c:Be}(h:KM c.Port): ∀f∈Rk c,XE f:=by
 intro f hf
 simp only[Rk,List.mem_cons,List.not_mem_nil,or_false]at hf
 rcases hf with rfl|rfl|rfl
 ·exact .key (.inl rfl)
 ·exact .num (.inl rfl) (Nat.zero_le _) (XI h)
 ·refine .num (.inr (.inl rfl)) (Nat.zero_le _) ?_
  have:=c.Mark.toNat_lt
  rw[gN (by omega)]
  show c.Mark.toNat≤4294967295
  omega
theorem ok_end{p:AI}(h:KP p): ∀f∈SI p,XE f:=by
 intro f hf
 unfold SI at hf
 rcases List.mem_append.1 hf with hf|hf
 ·simp only[List.mem_cons,List.not_mem_nil,or_false]at hf
  rcases hf with rfl|rfl|rfl
  ·exact .key (.inr (.inl rfl))
  ·exact .key (.inr (.inr rfl))
  ·exact .num (.inr (.inr (.inr (.inl rfl)))) (by decide) (by decide)
 ·split at hf
  ·cases hf
  ·rename_i hne
   simp only[List.mem_cons,List.not_mem_nil,or_false]at hf
   subst hf
   exact .host (h.2.1.resolve_left hne)
theorem yL{p:AI}(h:KP p): ∀f∈Cl p,XE f:=by
 intro f hf
 unfold Cl O2 at hf
 rcases List.mem_append.1 hf with hf|hf
 ·rcases List.mem_append.1 hf with hf|hf
  ·exact ok_end h f hf
  ·simp only[List.mem_cons,List.not_mem_nil,or_false]at hf
   rcases hf with rfl|rfl|rfl
   ·exact .num (.inr (.inr (.inr (.inr (.inl rfl))))) (Nat.zero_le _) (by have:=p.Sent.toNat_lt;show p.Sent.toNat≤18446744073709551615;omega)
   ·exact .num (.inr (.inr (.inr (.inr (.inr (.inl rfl)))))) (Nat.zero_le _) (by have:=p.Got.toNat_lt;show p.Got.toNat≤18446744073709551615;omega)
   ·exact .num (.inr (.inr (.inl rfl))) (Nat.zero_le _) (XI h.1)
 ·obtain⟨q,hq,rfl⟩:=List.mem_map.1 hf
  obtain⟨i,hi,rfl⟩:=List.mem_iff_getElem.1 hq
  obtain⟨p',hp',hr,_⟩:=h.2.2 i hi
  rw[List.getElem?_eq_getElem hi]at hp'
  cases hp'
  exact .pre hr
theorem yS{l:List AI}(h: ∀p∈l,KP p): ∀f∈l.flatMap Cl,XE f:=by
 intro f hf
 obtain⟨p,hp,hf⟩:=List.mem_flatMap.1 hf
 exact yL (h p hp) f hf
theorem Zv{c:Be}(h:F1 c): ∀f∈DC c,XE f:=by
 intro f hf
 rcases List.mem_append.1 hf with hf|hf
 ·exact yR h.1 f hf
 ·exact yS h.2.2.1.1 f hf
theorem hU:XE (No 0):= .num (w:=16) (n:=0) (.inr (.inr (.inr (.inr (.inr (.inr rfl)))))) (by decide) (by decide)
def P3(c:Be):AR:=txF (DC c++[No 0])++[10]
open Classical in
theorem Tr(c:Be)(hs:PP c):F8 c=some (if F1 c then(P3 c,0)else([],1)):=by
 have hr:=gL c hs
 unfold F8
 by_cases hc:F1 c
 ·rw[decide_eq_true hc]at hr
  have hf:=ZN hc
  have hlen:(DC c++[No 0]).length≤180:=by
   unfold DC Rk
   simp only[List.length_append,List.length_cons,List.length_nil]
   omega
  have hok: ∀f∈DC c++[No 0],XE f:=by
   intro f h
   rcases List.mem_append.1 h with h|h
   ·exact Zv hc f h
   ·simp only[List.mem_cons,List.not_mem_nil,or_false]at h
    subst h;exact hU
  refine(congrArg (fun x:Option Bool=>x.bind _) hr).trans ?_
  have hi:(iter _ ((0:Int),GS.mk (Rk c)):Option (GS An⊕(AR×Int)))=some (.inl (.mk (DC c))):=
   cL (F:=fun s15:Int×GS An=>(if(decide (s15.1<(c.Peers.l.length:Int)))=true then
    (ES c.Peers.l s15.1).bind fun x18=>(J7 x18).bind fun x23=>(W7 112 s15.2 x23.l).bind fun x24=>some (.inl (IntKind.i64.wrap (s15.1+1),x24))else some (.inr (.inl s15.2)):Option ((Int×GS An)⊕(GS An⊕(AR×Int)))))
    c.Peers.l.length (fun i=>((i:Int),GS.mk (Rk c++(c.Peers.l.take i).flatMap Cl))) (by simp) (by
    intro i hi
    have hb:=mT c.Peers.l i
    have hp:=nN (List.getElem_mem hi)
    have h64:=hc.2.2.2
    have hfl:=Tx c.Peers.l[i]
    dsimp only
    rw[if_pos (by simpa using hi),Bu,List.getElem?_eq_getElem hi,Option.bind_some,rA _ (by omega),Option.bind_some,E3,W6 (by unfold BR Rk;simp only[List.length_append,List.length_cons,List.length_nil];omega),Option.bind_some,jC _ _ hi,show(i:Int)+1=((i+1:Nat):Int) by omega,Ca (by have:=hc.2.1;omega),List.append_assoc]) (by
    dsimp only
    rw[if_neg (by simp),List.take_length];first|done|rfl)
  refine(congrArg (fun x:Option (GS An⊕(AR×Int))=>x.bind _) hi).trans ?_
  have h1:W7 112 (GS.mk (DC c)) [No 0]=some (.mk (DC c++[No 0])):=W6 (by
   simp only[List.length_append,List.length_cons,List.length_nil]at hlen ⊢
   unfold BR;omega)
  refine(congrArg (fun x:Option (GS An)=>x.bind _) h1).trans ?_
  have h2:FS (.mk (DC c++[No 0]))=some (.mk ((DC c++[No 0]).map HW)):=by
   rw[Sp _ ((DC c++[No 0]).map fun f=>(HW f,0)) ?_ (by rw[E3];omega)]
   ·rw[List.map_map]
    rfl
   ·rw[E3,List.map_map]
    exact List.map_congr_left fun f hf=>yI (hok f hf)
  refine(congrArg (fun x:Option (GS A0)=>x.bind _) h2).trans ?_
  have h3:DH (.mk ((DC c++[No 0]).map HW))=some (P3 c,0):=by
   rw[Y9 _ ?_]
   ·unfold ST
    rw[E3,if_neg (by rw[List.length_map];omega),List.find?_eq_none.2 ?_]
    ·show some (OH (((DC c++[No 0]).map HW).map E6)++[10],(0:Int))=_
     rw[List.map_map]
     rfl
    ·intro p hp
     obtain⟨f,hf,rfl⟩:=List.mem_map.1 hp
     rw[Aa2 (QL (hok f hf))]
     decide
   ·intro p hp
    obtain⟨f,hf,rfl⟩:=List.mem_map.1 hp
    have:=(QL (hok f hf)).2.2.2.2
    unfold E6 at this
    simp only[List.length_append,List.length_cons]at this
    omega
  refine(congrArg (fun x:Option (AR×Int)=>x.bind _) h3).trans ?_
  rw[if_pos hc]
  rfl
 ·rw[decide_eq_false hc]at hr
  refine(congrArg (fun x:Option Bool=>x.bind _) hr).trans ?_
  rw[if_neg hc]
  rfl
open Classical in
theorem V4(c:Be): ∃b,K4 c=some b∧(b=false→PP c):=by
 unfold K4
 by_cases h:20<c.Peers.l.length
 ·exact⟨true,by rw[if_pos (by rw[decide_eq_true_eq];omega)],by simp⟩
 ·rw[if_neg (by rw[decide_eq_true_eq];omega)]
  obtain⟨r,e,hq⟩: ∃r:Unit⊕Bool,iter (fun s4:Int=>if(decide (s4<(c.Peers.l.length:Int)))=true then
    (ES c.Peers.l s4).bind fun x10=>
    if(decide (80<(x10.Allowed.l.length:Int)))=true then
    (some true).map fun r=> .inr (.inr r)
    else
    some (.inl (IntKind.i64.wrap (s4+1)))
    else
    some (.inr (.inl ()))) 0=some r∧(r= .inr true∨(r= .inl ()∧PP c)):=by
   refine Mx (fun s:Int=>c.Peers.l.length-s.toNat) (fun s:Int=> ∃n:Nat,s=n∧n≤c.Peers.l.length∧ ∀i (hi:i<n) (hl:i<c.Peers.l.length),c.Peers.l[i].Allowed.l.length≤80)
    (fun r:Unit⊕Bool=>r= .inr true∨(r= .inl ()∧PP c)) ?_ ⟨0,rfl,by omega,fun i hi=>absurd hi (by omega)⟩
   rintro _ ⟨n,rfl,h1,h2⟩
   by_cases hn:n<c.Peers.l.length
   ·rw[if_pos (by simpa using hn),Bu,List.getElem?_eq_getElem hn,Option.bind_some]
    by_cases h8:80<c.Peers.l[n].Allowed.l.length
    ·rw[if_pos (by rw[decide_eq_true_eq];omega)]
     exact .inr ⟨_,rfl, .inl rfl⟩
    ·rw[if_neg (by rw[decide_eq_true_eq];omega),show(n:Int)+1=((n+1:Nat):Int) by omega,Ca (by omega)]
     refine .inl ⟨_,rfl,⟨n+1,rfl,by omega,fun i hi hl=> ?_⟩,by omega⟩
     by_cases e:i<n
     ·exact h2 i e hl
     ·obtain rfl:i=n:=by omega
      omega
   ·rw[if_neg (by simpa using hn)]
    refine .inr ⟨_,rfl, .inr ⟨rfl,by omega,fun p hp=> ?_⟩⟩
    obtain⟨i,hi,rfl⟩:=List.mem_iff_getElem.1 hp
    exact h2 i (by omega) hi
  refine⟨Sum.elim (fun _=>false) (fun b=>b) r,(congrArg (fun x:Option (Unit⊕Bool)=>x.bind (Sum.elim (fun _=>some false) some)) e).trans (by cases r<;>rfl),?_⟩
  rcases hq with rfl|⟨rfl,hq⟩
  ·intro h;cases h
  ·exact fun _=>hq
end Go.Proofs.YtobejhpigbllpaaGreatDoor.Am
namespace Go.Proofs.YtobejhpigbllpaaGreatDoor.Am
def isD(c:UInt8):Bool:=decide (48≤c.toNat∧c.toNat≤57)
def pT(n:Nat)(s:AR):Nat:=s.foldl (fun n c=>10*n+(c.toNat-48)) n
def NY(s:AR)(m:Nat):Nat×Int:=
 if s=[]∨s.all isD=false∨(1<s.length∧s[0]? =some 48)then(0,5)else if m<pT 0 s then(0,6)else(pT 0 s,0)
theorem mB: ∀k:Fin 10,isD (UInt8.ofNat (48+k.1))=true∧(UInt8.ofNat (48+k.1)).toNat=48+k.1∧(1≤k.1→UInt8.ofNat (48+k.1)≠48):=by decide+kernel
theorem Wm: ∀(k n:Nat),n<10^k→n<18446744073709551616→C3 n≠[]∧(C3 n).all isD=true∧pT 0 (C3 n)=n∧(1≤n→(C3 n)[0]? ≠some 48)∧(n<10→(C3 n).length=1)
 |0,n,h,hn=>by
  obtain rfl:n=0:=by omega
  decide
 |k+1,n,h,hn=>by
  rw[zT hn]
  by_cases h10:n<10
  ·obtain⟨d1,d2,d3⟩:=mB ⟨n,h10⟩
   rw[if_pos h10]
   refine⟨by simp,by simpa using d1,?_,fun h1=> ?_,fun _=>rfl⟩
   ·show 10*0+((UInt8.ofNat (48+n)).toNat-48)=n
    rw[d2,Nat.add_sub_cancel_left,Nat.mul_zero,Nat.zero_add]
   ·simpa using d3 h1
  ·rw[if_neg h10]
   obtain⟨i1,i2,i3,i4,_⟩:=Wm k (n/10) (by rw[Nat.pow_succ]at h;omega) (by omega)
   obtain⟨d1,d2,_⟩:=mB ⟨n%10,by omega⟩
   have d2:(UInt8.ofNat (48+n%10)).toNat=48+n%10:=d2
   refine⟨by simp,by rw[List.all_append,i2];simpa using d1,?_,fun _=> ?_,fun h=>absurd h h10⟩
   ·unfold pT at i3 ⊢
    rw[List.foldl_append,i3]
    show 10*(n/10)+((UInt8.ofNat (48+n%10)).toNat-48)=n
    rw[d2];omega
   ·rw[List.getElem?_append_left (List.length_pos_iff.2 i1)]
    exact i4 (by omega)
theorem lZ{n:Nat}(hn:n<18446744073709551616):C3 n≠[]∧(C3 n).all isD=true∧pT 0 (C3 n)=n∧(1≤n→(C3 n)[0]? ≠some 48)∧(n<10→(C3 n).length=1):=
 Wm 20 n (Nat.lt_of_lt_of_le hn (by decide)) hn
theorem M6{n m:Nat}(hn:n<18446744073709551616)(h:n≤m):NY (C3 n) m=(n,0):=by
 obtain⟨h1,h2,h3,h4,h5⟩:=lZ hn
 unfold NY
 rw[h3,if_neg,if_neg (by omega)]
 rintro(h|h|⟨hl,h0⟩)
 ·exact h1 h
 ·rw[h2]at h;cases h
 ·by_cases h10:n<10
  ·rw[h5 h10]at hl;omega
  ·exact h4 (by omega) h0
def Ul(c:UInt8):Option Nat:=if 48≤c.toNat∧c.toNat≤57 then some (c.toNat-48)else if 97≤c.toNat∧c.toNat≤102 then some (c.toNat-87)else none
def zI:AR→Option (List UInt8)
 |[]=>some []
 |[_]=>none
 |a::b::l=>(Ul a).bind fun x=>(Ul b).bind fun y=>(zI l).map fun r=>UInt8.ofNat (16*x+y)::r
theorem lH: ∀k:Fin 16,Ul (hd k.1)=some k.1:=by decide+kernel
theorem Yn: ∀l:List UInt8,zI (Kl l)=some l
 |[]=>rfl
 |b::l=>by
  have h:=b.toNat_lt
  show(Ul (hd (b.toNat/16))).bind (fun x=>(Ul (hd (b.toNat%16))).bind fun y=>(zI (Kl l)).map fun r=>UInt8.ofNat (16*x+y)::r)=_
  rw[lH ⟨b.toNat/16,by omega⟩,lH ⟨b.toNat%16,by omega⟩,Yn l]
  show some (UInt8.ofNat (16*(b.toNat/16)+b.toNat%16)::l)=_
  rw[show 16*(b.toNat/16)+b.toNat%16=b.toNat by omega,GA]
def ar32(l:List UInt8):Ar UInt8 32:=if h:l.length=32 then⟨l,h⟩else zK
def tQ(v:AR):Ar UInt8 32×Int:=match zI v with
 |none=>(zK,5)
 |some l=>if l.length<32 then(zK,3)else if 32<l.length then(zK,4)else(ar32 l,0)
theorem Sz(K:Ar UInt8 32):tQ (Kl K.l)=(K,0):=by
 unfold tQ
 rw[Yn]
 have h:=K.len
 dsimp only
 rw[if_neg (by omega),if_neg (by omega)]
 unfold ar32
 rw[dif_pos h]
def iK(c:UInt8):UInt8:=if 65≤c.toNat∧c.toNat≤70 then UInt8.ofNat (c.toNat+32)else c
def UM(n:Nat):AR→Option Nat
 |[]=>some n
 |c::l=>(Ul (iK c)).bind fun v=>UM (16*n+v) l
def rdG(s:AR):Option Nat:=if 1≤s.length∧s.length≤4 then UM 0 s else none
theorem aX: ∀(s t:AR) (n:Nat),UM n (s++t)=(UM n s).bind fun m=>UM m t
 |[],t,n=>rfl
 |c::s,t,n=>by
  show(Ul (iK c)).bind (fun v=>UM (16*n+v) (s++t))=((Ul (iK c)).bind fun v=>UM (16*n+v) s).bind _
  cases Ul (iK c)with
  |none=>rfl
  |some v=>exact aX s t _
theorem kJ: ∀k:Fin 16,Ul (iK (hd k.1))=some k.1:=by decide+kernel
theorem Mz: ∀k:Fin 16,hd k.1≠58∧hd k.1≠47∧hd k.1≠32∧hd k.1≠93∧hd k.1≠91∧hd k.1≠46:=by decide+kernel
theorem SA: ∀(k n:Nat),n<16^k→n<65536→1≤(Od n).length∧((Od n).length≤k∨(k=0∧(Od n).length≤1))∧UM 0 (Od n)=some n
 |0,n,h,hn=>by
  obtain rfl:n=0:=by omega
  decide
 |k+1,n,h,hn=>by
  rw[uI hn]
  by_cases h16:n<16
  ·rw[if_pos h16]
   refine⟨by simp, .inl (by simp),?_⟩
   show(Ul (iK (hd n))).bind (fun v=>UM (16*0+v) [])=_
   rw[kJ ⟨n,h16⟩];simp[UM]
  ·rw[if_neg h16]
   obtain⟨i1,i2,i3⟩:=SA k (n/16) (by rw[Nat.pow_succ]at h;omega) (by omega)
   refine⟨by simp, .inl ?_,?_⟩
   ·rcases i2 with i2|⟨rfl,i2⟩
    ·simpa using i2
    ·simp at h;omega
   ·rw[aX,i3]
    show(Ul (iK (hd (n%16)))).bind (fun v=>UM (16*(n/16)+v) [])=_
    rw[kJ ⟨n%16,by omega⟩]
    show some (16*(n/16)+n%16)=_
    rw[show 16*(n/16)+n%16=n by omega]
theorem yF{n:Nat}(h:n<65536):rdG (Od n)=some n:=by
 obtain⟨h1,h2,h3⟩:=SA 4 n (by omega) h
 unfold rdG
 rw[if_pos ⟨h1,by omega⟩,h3]
theorem VQ: ∀(k n:Nat) (c:UInt8),c∈O4 k n→ ∃j:Fin 16,c=hd j.1
 |0,_,c,h=>by simp[O4]at h
 |k+1,n,c,h=>by
  rw[O4]at h
  split at h
  ·rename_i hn
   exact⟨⟨n,hn⟩,by simpa using h⟩
  ·rcases List.mem_append.1 h with h|h
   ·exact VQ k _ c h
   ·exact⟨⟨n%16,by omega⟩,by simpa using h⟩
theorem ZI{n:Nat}{c:UInt8}(hc: ∀j:Fin 16,hd j.1≠c):c∉Od n:=fun h=>by
 obtain⟨j,e⟩:=VQ 5 n c h
 exact hc j e.symm
theorem mA{n:Nat}{c:UInt8}(hn:n<18446744073709551616)(hc:isD c=false):c∉C3 n:=fun h=>by
 have:=List.all_eq_true.1 (lZ hn).2.1 c h
 rw[hc]at this;cases this
theorem MI{c:UInt8}: ∀{l:List AR},l≠[]→(∀x∈l,c∉x)→DG c (CQ [c] l)=l
 |[],h,_=>absurd rfl h
 |[x],_,h=>Oi fun y hy e=>h x (by simp) (e▸hy)
 |x::y::r,_,h=>by
  show DG c (x++[c]++CQ [c] (y::r))=_
  rw[List.append_assoc,List.singleton_append,MJ (fun z hz (e:z=c)=>h x (by simp) (by rw[←e];exact hz)),MI (by simp) fun z hz=>h z (List.mem_cons_of_mem _ hz)]
theorem VH{sep:AR}{c:UInt8}(hs:c∉sep): ∀{l:List AR},(∀x∈l,c∉x)→c∉CQ sep l
 |[],_=>by simp[CQ]
 |[x],h=>by simpa [CQ]using h
 |x::y::r,h=>by
  show c∉x++sep++CQ sep (y::r)
  simp only[List.mem_append,not_or]
  exact⟨⟨h x (by simp),hs⟩,VH hs fun z hz=>h z (List.mem_cons_of_mem _ hz)⟩
def vO:List AR→Int
 |[]=>0
 |x::l=>if(NY x 255).2=0 then vO l else(NY x 255).2
def Aa9:List UInt8:=[0,0,0,0]
def P7(s:AR):List UInt8×Int:=
 if(DG 46 s).length=4 then(if vO (DG 46 s)=0 then((DG 46 s).map fun x=>UInt8.ofNat (NY x 255).1,0)else(Aa9,vO (DG 46 s)))else(Aa9,5)
theorem YA: ∀l:List UInt8,vO (l.map fun b=>C3 b.toNat)=0
 |[]=>rfl
 |b::l=>by
  have h:=b.toNat_lt
  show(if(NY (C3 b.toNat) 255).2=0 then vO (l.map fun b=>C3 b.toNat)else _)=0
  rw[M6 (by omega) (by omega),if_pos rfl,YA l]
theorem bZ{B:List UInt8}(h:B.length=4):P7 (QU B)=(B,0):=by
 have hs:DG 46 (QU B)=B.map fun b=>C3 b.toNat:=MI (fun e=>by rw[List.map_eq_nil_iff]at e;subst e;cases h) fun x hx=>by
  obtain⟨b,_,rfl⟩:=List.mem_map.1 hx
  exact mA (by have:=b.toNat_lt;omega) (by decide)
 unfold P7
 rw[hs,List.length_map,if_pos h,YA,if_pos rfl,List.map_map]
 have:(fun x=>UInt8.ofNat (NY x 255).1)∘(fun b:UInt8=>C3 b.toNat)=id:=by
  funext b
  have:=b.toNat_lt
  show UInt8.ofNat (NY (C3 b.toNat) 255).1=b
  rw[M6 (by omega) (by omega),GA]
 rw[this,List.map_id]
def Qo:AR→Option (AR×AR)
 |[]=>none
 |[_]=>none
 |a::b::r=>if a=58∧b=58 then some ([],r)else(Qo (b::r)).map fun p=>(a::p.1,p.2)
def lL(last:Bool):List AR→Option (List Nat)
 |[]=>some []
 |x::r=>match rdG x with
  |some n=>(lL last r).map fun l=>n::l
  |none=>if r=[]∧last=true∧(P7 x).2=0 then some [256*((P7 x).1.getD 0 0).toNat+((P7 x).1.getD 1 0).toNat,256*((P7 x).1.getD 2 0).toNat+((P7 x).1.getD 3 0).toNat]else none
def cR(last:Bool)(s:AR):Option (List Nat):=if s=[]then some []else lL last (DG 58 s)
def jS(l:List Nat):List UInt8:=l.flatMap fun n=>[UInt8.ofNat (n/256),UInt8.ofNat (n%256)]
def zW(s:AR):Option (List UInt8):=
 match Qo s with
 |none=>(cR true s).bind fun l=>if l.length=8 then some (jS l)else none
 |some (a,b)=>(cR false a).bind fun l=>(cR true b).bind fun m=>if l.length+m.length≤7 then some (jS (l++List.replicate (8-l.length-m.length) 0++m))else none
theorem Yq(last:Bool): ∀{l:List Nat},(∀n∈l,n<65536)→lL last (l.map Od)=some l
 |[],_=>rfl
 |n::l,h=>by
  rw[List.map_cons,lL,yF (h n (by simp)),Yq last fun m hm=>h m (List.mem_cons_of_mem _ hm)]
  rfl
theorem iZ(n:Nat)(h:n<65536):Od n≠[]:=fun e=>by
 have:=(SA 4 n (by omega) h).1
 rw[e]at this;simp at this
theorem PX{l:List Nat}(hl:l≠[]):DG 58 (LK l)=l.map Od:=
 MI (by simpa using hl) fun x hx=>by
  obtain⟨n,_,rfl⟩:=List.mem_map.1 hx
  exact ZI fun j=>(Mz j).1
theorem bT{l:List Nat}(h: ∀n∈l,n<65536):LK l=[]↔l=[]:=by
 constructor
 ·intro e
  cases l with
  |nil=>rfl
  |cons n l=>
   have:=PX (l:=n::l) (by simp)
   rw[e]at this
   have e2:=(List.cons.inj this).1
   exact absurd e2.symm (iZ n (h n (by simp)))
 ·rintro rfl;rfl
theorem Qg(last:Bool){l:List Nat}(h: ∀n∈l,n<65536):cR last (LK l)=some l:=by
 unfold cR
 by_cases e:l=[]
 ·subst e;rfl
 ·rw[if_neg (fun x=>e ((bT h).1 x)),PX e,Yq last h]
def Flat(s:AR):Prop:=Qo s=none∧ ∀m,s≠m++[58]
theorem Yt: ∀{s:AR} (r:AR),Flat s→Qo (s++58::58::r)=some (s,r)
 |[],r,_=>by simp[Qo]
 |[a],r,⟨_,h⟩=>by
  have ha:a≠58:=fun e=>h [] (by rw[e];rfl)
  show(if a=58∧(58:UInt8)=58 then _ else(Qo (58::58::r)).map fun p=>(a::p.1,p.2))=_
  rw[if_neg (fun e=>ha e.1)]
  simp[Qo]
 |a::b::s,r,⟨h1,h2⟩=>by
  rw[Qo]at h1
  by_cases hc:a=58∧b=58
  ·rw[if_pos hc]at h1;cases h1
  ·rw[if_neg hc]at h1
   have ih:=Yt (s:=b::s) r ⟨by simpa using h1,fun m e=>h2 (a::m) (by rw[e];rfl)⟩
   show(if a=58∧b=58 then _ else(Qo ((b::s)++58::58::r)).map fun p=>(a::p.1,p.2))=_
   rw[if_neg hc,ih]
   rfl
theorem SC: ∀{s:AR},(58:UInt8)∉s→Flat s
 |[],_=>⟨rfl,fun m e=>by simp at e⟩
 |[a],h=>⟨rfl,fun m e=>by
   rcases List.append_eq_singleton_iff.1 e.symm with ⟨_,e⟩|⟨_,e⟩
   ·exact h (by rw[List.cons.inj e |>.1];simp)
   ·cases e⟩
 |a::b::s,h=>by
  have ih:=SC (s:=b::s) (fun x=>h (List.mem_cons_of_mem _ x))
  refine⟨?_,fun m e=> ?_⟩
  ·rw[Qo,if_neg (fun e=>h (by simp[e.1])),ih.1];rfl
  ·exact h (by rw[e];simp)
theorem oR{x s:AR}(hx:(58:UInt8)∉x)(hx0:x≠[])(hs:Flat s)(hs0:s≠[])(hh:s.head?≠some 58):Flat (x++58::s):=by
 induction x with
 |nil=>exact absurd rfl hx0
 |cons a x ih=>
  have ha:a≠58:=fun e=>hx (by simp[e])
  by_cases hx1:x=[]
  ·subst hx1
   obtain⟨b,t,rfl⟩:=List.exists_cons_of_ne_nil hs0
   have hb:b≠58:=fun e=>hh (by simp[e])
   refine⟨?_,fun m e=> ?_⟩
   ·show Qo (a::58::b::t)=none
    rw[Qo,if_neg (fun e=>ha e.1),Qo,if_neg (fun e=>hb e.2),hs.1];rfl
   ·rcases m with _|⟨c,_|⟨d,m⟩⟩
    ·simp at e
    ·simp at e
    ·simp at e
     exact hs.2 m (by simp[e])
  ·have i:=ih (fun h=>hx (List.mem_cons_of_mem _ h)) hx1
   obtain⟨b,t,rfl⟩:=List.exists_cons_of_ne_nil hx1
   refine⟨?_,fun m e=> ?_⟩
   ·show Qo (a::b::(t++58::s))=none
    have:=i.1
    rw[Qo,if_neg (fun e=>ha e.1)]
    rw[List.cons_append]at this
    rw[this];rfl
   ·rcases m with _|⟨c,m⟩
    ·simp at e
    ·simp only[List.cons_append,List.cons.injEq]at e
     exact i.2 m (by rw[List.cons_append];exact e.2)
theorem Sl: ∀{l:List Nat},(∀n∈l,n<65536)→Flat (LK l)
 |[],_=>SC (by simp[LK,CQ])
 |[n],_=>SC (by simpa [LK,CQ]using ZI fun j=>(Mz j).1)
 |n::m::r,h=>by
  have hn:=h n (by simp)
  have ht: ∀k∈m::r,k<65536:=fun k hk=>h k (List.mem_cons_of_mem _ hk)
  have e:LK (n::m::r)=Od n++58::LK (m::r):=by simp[LK,CQ]
  rw[e]
  have h0:LK (m::r)≠[]:=fun x=>by have:=(bT ht).1 x;cases this
  refine oR (ZI fun j=>(Mz j).1) (iZ n hn) (Sl ht) h0 fun hh=> ?_
  have hs:=PX (l:=m::r) (by simp)
  obtain⟨b,t,e2⟩:=List.exists_cons_of_ne_nil h0
  rw[e2]at hh hs
  have:b=58:=by simpa using hh
  subst this
  rw[DG,if_pos rfl]at hs
  exact iZ m (ht m (by simp)) (List.cons.inj hs).1.symm
theorem TB{B:List UInt8}(h:B.length=16):jS (vals B)=B:=by
 match B,h with
 |[b0,b1,b2,b3,b4,b5,b6,b7,b8,b9,b10,b11,b12,b13,b14,b15],_=>
  have key: ∀x y:UInt8,[UInt8.ofNat ((256*x.toNat+y.toNat)/256),UInt8.ofNat ((256*x.toNat+y.toNat)%256)]=[x,y]:=fun x y=>by
   have hx:=x.toNat_lt
   have hy:=y.toNat_lt
   rw[show(256*x.toNat+y.toNat)/256=x.toNat by omega,show(256*x.toNat+y.toNat)%256=y.toNat by omega,GA,GA]
  show [UInt8.ofNat ((256*b0.toNat+b1.toNat)/256),UInt8.ofNat ((256*b0.toNat+b1.toNat)%256)]++([UInt8.ofNat ((256*b2.toNat+b3.toNat)/256),UInt8.ofNat ((256*b2.toNat+b3.toNat)%256)]++([UInt8.ofNat ((256*b4.toNat+b5.toNat)/256),UInt8.ofNat ((256*b4.toNat+b5.toNat)%256)]++([UInt8.ofNat ((256*b6.toNat+b7.toNat)/256),UInt8.ofNat ((256*b6.toNat+b7.toNat)%256)]++([UInt8.ofNat ((256*b8.toNat+b9.toNat)/256),UInt8.ofNat ((256*b8.toNat+b9.toNat)%256)]++([UInt8.ofNat ((256*b10.toNat+b11.toNat)/256),UInt8.ofNat ((256*b10.toNat+b11.toNat)%256)]++([UInt8.ofNat ((256*b12.toNat+b13.toNat)/256),UInt8.ofNat ((256*b12.toNat+b13.toNat)%256)]++([UInt8.ofNat ((256*b14.toNat+b15.toNat)/256),UInt8.ofNat ((256*b14.toNat+b15.toNat)%256)]++[])))))))=_
  rw[key,key,key,key,key,key,key,key]
  rfl
def bS(l:List Bool)(p:Nat×Nat):Bool:=decide (p.1+p.2≤8)&&(List.range p.2).all fun k=>l.getD (p.1+k) false
theorem yZ: ∀a b c d e f g h:Bool,bS [a,b,c,d,e,f,g,h] (Ki [a,b,c,d,e,f,g,h] 0 0 0 0)=true:=by decide+kernel
theorem tF{l:List Bool}(h:l.length=8):bS l (Ki l 0 0 0 0)=true:=by
 match l,h with
 |[a,b,c,d,e,f,g,k],_=>exact yZ a b c d e f g k
theorem oT{v:List Nat}(hv:v.length=8){p z:Nat}(h:bS (UG v) (p,z)=true):v.take p++List.replicate z 0++v.drop (p+z)=v:=by
 unfold bS at h
 simp only[Bool.and_eq_true,decide_eq_true_eq,List.all_eq_true,List.mem_range]at h
 obtain⟨h1,h2⟩:=h
 have hz:(v.drop p).take z=List.replicate z 0:=by
  apply List.ext_getElem
  ·simp;omega
  ·intro i hi hj
   have hi':i<z:=by simp at hj;exact hj
   have:=h2 i hi'
   rw[List.getElem_replicate,List.getElem_take,List.getElem_drop]
   unfold UG at this
   rw[List.getD_eq_getElem?_getD,List.getElem?_map,List.getElem?_eq_getElem (by omega)]at this
   simpa using this
 rw[←hz,List.append_assoc,←List.drop_drop,List.take_append_drop,List.take_append_drop]
theorem pC{B:List UInt8}(h:B.length=16):zW (SK B)=some B:=by
 have hv:=Jr B
 have hlt:=wN B
 have hr:=tF (l:=UG (vals B)) (by simp[UG,hv])
 unfold SK
 dsimp only
 generalize Ki (UG (vals B)) 0 0 0 0=q at hr ⊢
 obtain⟨p,z⟩:=q
 by_cases hz:z<2
 ·rw[if_pos hz]
  unfold zW
  rw[(Sl hlt).1]
  dsimp only
  rw[Qg true hlt,Option.bind_some,if_pos hv,TB h]
 ·rw[if_neg hz]
  have ha: ∀n∈(vals B).take p,n<65536:=fun n hn=>hlt n (List.mem_of_mem_take hn)
  have hb: ∀n∈(vals B).drop (p+z),n<65536:=fun n hn=>hlt n (List.mem_of_mem_drop hn)
  have hpz:p+z≤8:=by
   unfold bS at hr
   simp only[Bool.and_eq_true,decide_eq_true_eq]at hr
   exact hr.1
  unfold zW
  rw[List.append_assoc,show([58,58]:AR)++LK ((vals B).drop (p+z))=58::58::LK ((vals B).drop (p+z))from rfl,Yt _ (Sl ha)]
  dsimp only
  rw[Qg false ha,Option.bind_some,Qg true hb,Option.bind_some,if_pos (by rw[List.length_take,List.length_drop];omega)]
  have e:8-((vals B).take p).length-((vals B).drop (p+z)).length=z:=by rw[List.length_take,List.length_drop];omega
  rw[e,oT hv hr,TB h]
def vQ(l:List UInt8):Ar UInt8 16:=if h:l.length=16 then⟨l,h⟩else⟨List.replicate 16 0,rfl⟩
def zA:A4:=⟨0,⟨List.replicate 16 0,rfl⟩⟩
def WB(s:AR):A4×Int:=
 if(58:UInt8)∈s then(match zW s with|some l=>(⟨6,vQ l⟩,0)|none=>(zA,5))
 else if(P7 s).2=0 then(⟨4,vQ ((P7 s).1++List.replicate 12 0)⟩,0)else(zA,(P7 s).2)
theorem Vr{c:UInt8}(h:isD c=false)(h46:c≠46)(B:List UInt8):c∉QU B:=
 VH (by simpa using h46) fun x hx=>by
  obtain⟨b,_,rfl⟩:=List.mem_map.1 hx
  exact mA (by have:=b.toNat_lt;omega) h
theorem Zn{c:UInt8}(h: ∀j:Fin 16,hd j.1≠c)(h58:c≠58)(l:List Nat):c∉LK l:=
 VH (by simpa using h58) fun x hx=>by
  obtain⟨n,_,rfl⟩:=List.mem_map.1 hx
  exact ZI h
theorem zV{c:UInt8}(h: ∀j:Fin 16,hd j.1≠c)(h58:c≠58)(B:List UInt8):c∉SK B:=by
 unfold SK
 dsimp only
 split
 ·exact Zn h h58 _
 ·simp only[List.mem_append,not_or,List.mem_cons,List.not_mem_nil,or_false]
  exact⟨⟨Zn h h58 _,⟨h58,h58⟩⟩,Zn h h58 _⟩
theorem fU(B:List UInt8):(58:UInt8)∈SK B:=by
 unfold SK
 dsimp only
 split
 ·have hv:=Jr B
  match vals B,hv with
  |a::b::r,_=>simp[LK,CQ]
 ·simp
theorem aK{B:Ar UInt8 16}:vQ B.l=B:=by unfold vQ;rw[dif_pos B.len]
theorem TE{a:A4}(h:Dl a=true):WB (G6 a)=(a,0):=by
 unfold G6
 rw[if_pos h]
 by_cases h4:a.V=4
 ·have hl:(a.B.l.take 4).length=4:=by rw[List.length_take,a.B.len];rfl
  have hd:a.B.l.drop 4=List.replicate 12 0:=by
   unfold Dl at h
   rw[decide_eq_true_eq]at h
   rcases h with h|h
   ·rw[h4]at h;cases h
   ·exact h.2
  unfold WB
  rw[if_pos h4,if_neg (Vr (by decide) (by decide) _),bZ hl,if_pos rfl]
  dsimp only
  rw[←hd,List.take_append_drop,aK,←h4]
 ·have h6:=Vl h h4
  unfold WB
  rw[if_neg h4,if_pos (fU _),pC a.B.len]
  dsimp only
  rw[aK,←h6]
theorem W9{c:UInt8}(hd':isD c=false)(h46:c≠46)(h: ∀j:Fin 16,hd j.1≠c)(h58:c≠58)(a:A4):c∉G6 a:=by
 unfold G6
 split
 ·split
  ·exact Vr hd' h46 _
  ·exact zV h h58 _
 ·simp
def jO(c:UInt8)(s:AR):AR×AR×Bool:=if c∈s then(s.takeWhile (fun x=>x != c),(s.dropWhile (fun x=>x != c)).drop 1,true)else(s,[],false)
theorem fS{c:UInt8}{p q:AR}(h:c∉p):jO c (p++c::q)=(p,q,true):=by
 unfold jO
 have h1: ∀x∈p,(x != c)=true:=fun x hx=>by simp;rintro rfl;exact h hx
 rw[if_pos (by simp),List.takeWhile_append_of_pos h1,List.dropWhile_append_of_pos h1]
 simp
def ofP(a:A4)(n:Int):Ao×Int:=
 if Dl a=true then(if n<0∨(Dk a:Int)<n then(⟨zA,0⟩,6)else(⟨⟨a.V,vQ (Lm a.B.l n.toNat)⟩,n⟩,0))else(⟨zA,0⟩,1)
def fX(s:AR):Ao×Int:=
 let c:=jO 47 s
 let a:=WB c.1
 if a.2=0 then(if c.2.2=true then(let n:=NY c.2.1 (Dk a.1);if n.2=0 then ofP a.1 (n.1:Int)else(⟨zA,0⟩,n.2))else ofP a.1 (Dk a.1:Int))else(⟨zA,0⟩,a.2)
theorem bV{p:Ao}(h:Gw p=true):Dl p.A=true∧(0≤p.Bits∧p.Bits≤(Dk p.A:Int))∧Lm p.A.B.l p.Bits.toNat=p.A.B.l:=by
 unfold Gw at h
 simp only[Bool.and_eq_true,decide_eq_true_eq]at h
 exact⟨h.1,h.2.1,h.2.2⟩
theorem fW{p:Ao}(h:Gw p=true):fX (NP p)=(p,0):=by
 obtain⟨h1,⟨h2,h3⟩,h4⟩:=bV h
 have hw:=Qy p.A
 unfold NP fX
 rw[if_pos h,List.append_assoc,List.singleton_append,fS (W9 (by decide) (by decide) (fun j=>(Mz j).2.1) (by decide) _)]
 dsimp only
 rw[TE h1]
 dsimp only
 rw[if_pos rfl,if_pos rfl,M6 (by omega) (by omega)]
 dsimp only
 rw[if_pos rfl]
 have e:((p.Bits.toNat:Nat):Int)=p.Bits:=by omega
 unfold ofP
 rw[e,if_pos h1,if_neg (by omega),h4,aK]
def jP:AR→Option (AR×AR)
 |[]=>none
 |[_]=>none
 |a::b::r=>if a=93∧b=58 then some ([],r)else(jP (b::r)).map fun p=>(a::p.1,p.2)
theorem fT: ∀{s:AR} (r:AR),(93:UInt8)∉s→jP (s++93::58::r)=some (s,r)
 |[],r,_=>by simp[jP]
 |[a],r,h=>by
  have ha:a≠93:=fun e=>h (by simp[e])
  show(if a=93∧(93:UInt8)=58 then _ else(jP (93::58::r)).map fun p=>(a::p.1,p.2))=_
  rw[if_neg (fun e=>ha e.1)]
  simp[jP]
 |a::b::s,r,h=>by
  have ha:a≠93:=fun e=>h (by simp[e])
  have ih:=fT (s:=b::s) r (fun x=>h (List.mem_cons_of_mem _ x))
  show(if a=93∧b=58 then _ else(jP ((b::s)++93::58::r)).map fun p=>(a::p.1,p.2))=_
  rw[if_neg (fun e=>ha e.1),ih]
  rfl
def Yp(s:AR):Option (AR×AR):=
 if s.head?=some 91 then(jP (s.drop 1)).bind fun p=>if(58:UInt8)∈p.1 then some p else none
 else if(58:UInt8)∈s then some ((jO 58 s).1,(jO 58 s).2.1)else none
def kU:AA:=⟨zA,0⟩
def dR(s:AR):AA×Int:=
 match Yp s with
 |none=>(kU,5)
 |some (h,p)=>if(WB h).2=0 then(if(NY p 65535).2=0 then(if(NY p 65535).1=0 then(kU,6)else(⟨(WB h).1,(NY p 65535).1⟩,0))else(kU,(NY p 65535).2))else(kU,(WB h).2)
theorem dQ{e:AA}(h:Gx e=true):dR (My e)=(e,0):=by
 obtain⟨h1,h2,h3⟩:=Tf h
 have hp:NY (C3 e.Port.toNat) 65535=(e.Port.toNat,0):=M6 (by omega) (by omega)
 have e2:((e.Port.toNat:Nat):Int)=e.Port:=by omega
 have hh:Yp (My e)=some (G6 e.A,C3 e.Port.toNat):=by
  unfold My
  rw[if_pos h]
  by_cases h6:e.A.V=6
  ·rw[if_pos h6]
   have ec:G6 e.A=SK e.A.B.l:=by
    unfold G6
    rw[if_pos h1,if_neg (by rw[h6];decide)]
   show Yp (91::(G6 e.A++[93,58]++C3 e.Port.toNat))=_
   unfold Yp
   rw[List.append_assoc,show([93,58]:AR)++C3 e.Port.toNat=93::58::C3 e.Port.toNat from rfl,List.head?_cons,if_pos rfl,List.drop_one,List.tail_cons,fT _ (W9 (by decide) (by decide) (fun j=>(Mz j).2.2.2.1) (by decide) _),Option.bind_some,if_pos (by rw[ec];exact fU _)]
  ·rw[if_neg h6]
   have h4:e.A.V=4:=by
    unfold Dl at h1
    rw[decide_eq_true_eq]at h1
    rcases h1 with h1|h1
    ·exact absurd h1 h6
    ·exact h1.1
   have ea:G6 e.A=QU (e.A.B.l.take 4):=by
    unfold G6
    rw[if_pos h1,if_pos h4]
   have hno:(58:UInt8)∉G6 e.A:=by rw[ea];exact Vr (by decide) (by decide) _
   have h91:(91:UInt8)∉G6 e.A:=W9 (by decide) (by decide) (fun j=>(Mz j).2.2.2.2.1) (by decide) _
   have e3:G6 e.A++[58]++C3 e.Port.toNat=G6 e.A++58::C3 e.Port.toNat:=by simp
   rw[e3]
   have key: ∀s:AR,s.head?≠some 91→Yp s=if(58:UInt8)∈s then some ((jO 58 s).1,(jO 58 s).2.1)else none:=by
    intro s hs
    unfold Yp
    rw[if_neg hs]
   rw[key,if_pos (by simp),fS hno]
   cases hq:G6 e.A with
   |nil=>simp
   |cons a r=>
    rw[hq]at h91
    simp only[List.cons_append,List.head?_cons,ne_eq,Option.some.injEq]
    rintro rfl
    simp at h91
 unfold dR
 rw[hh]
 dsimp only
 rw[TE h1,hp]
 dsimp only
 rw[if_pos rfl,if_pos rfl,if_neg (by omega),e2]
end Go.Proofs.YtobejhpigbllpaaGreatDoor.Am
namespace Go.Proofs.YtobejhpigbllpaaGreatDoor.Am
def Hp(k:AR):Nat:=((List.range' 1 16).find? fun w=>decide (HX w=k)).getD 0
def noF:An:=⟨0,zK,0,zE,zP⟩
def ZD(w:Nat):Prop:=w=1∨w=5∨w=8
instance (w:Nat):Decidable (ZD w):=by unfold ZD;infer_instance
def UA(w:Nat):Prop:=w=4∨w=6∨w=7∨w=11
instance (w:Nat):Decidable (UA w):=by unfold UA;infer_instance
def LS(p:A0):An×Int:=
 if Hp p.Key=0 then(noF,12)
 else if ZD (Hp p.Key)then(if(tQ p.Value).2=0 then(⟨Hp p.Key,(tQ p.Value).1,0,zE,zP⟩,0)else(noF,(tQ p.Value).2))
 else if Hp p.Key=9 then(if(dR p.Value).2=0 then(⟨9,zK,0,(dR p.Value).1,zP⟩,0)else(noF,(dR p.Value).2))
 else if Hp p.Key=12 then(if(fX p.Value).2=0 then(⟨12,zK,0,zE,(fX p.Value).1⟩,0)else(noF,(fX p.Value).2))
 else if UA (Hp p.Key)then(if p.Value=[116,114,117,101]then(⟨Hp p.Key,zK,0,zE,zP⟩,0)else(noF,5))
 else if(NY p.Value (Vx (Hp p.Key))).2=0 then(if(NY p.Value (Vx (Hp p.Key))).1<Z2 (Hp p.Key)then(noF,6)else(⟨Hp p.Key,zK,UInt64.ofNat (NY p.Value (Vx (Hp p.Key))).1,zE,zP⟩,0))else(noF,(NY p.Value (Vx (Hp p.Key))).2)
theorem MF: ∀w:Fin 17,1≤w.1→Hp (HX w.1)=w.1:=by decide+kernel
theorem ZO{f:An}(h:XE f):LS (HW f)=(f,0):=by
 have hw: ∀w:Fin 17,1≤w.1→Hp (HX (w.1:Int).toNat)=w.1:=fun w h=>MF w h
 cases h with
 | @key w K hw1=>
  have hv:aY ⟨w,K,0,zE,zP⟩=Kl K.l:=by unfold aY;rw[if_pos hw1]
  unfold LS HW
  rw[hv]
  dsimp only
  rcases hw1 with rfl|rfl|rfl
  ·rw[show Hp (HX (1:Int).toNat)=1 from hw ⟨1,by decide⟩ (by decide),if_neg (by decide),if_pos (by decide),Sz];rfl
  ·rw[show Hp (HX (5:Int).toNat)=5 from hw ⟨5,by decide⟩ (by decide),if_neg (by decide),if_pos (by decide),Sz];rfl
  ·rw[show Hp (HX (8:Int).toNat)=8 from hw ⟨8,by decide⟩ (by decide),if_neg (by decide),if_pos (by decide),Sz];rfl
 | @num w n hw1 h1 h2=>
  have hn:=n.toNat_lt
  have key: ∀w:Nat,(w=2∨w=3∨w=10∨w=13∨w=14∨w=15∨w=16)→Z2 w≤n.toNat→n.toNat≤Vx w→LS ⟨HX w,C3 n.toNat⟩=(⟨w,zK,n,zE,zP⟩,0):=by
   intro w hw2 l1 l2
   have e:Hp (HX w)=w:=by
    rcases hw2 with rfl|rfl|rfl|rfl|rfl|rfl|rfl<;>exact MF ⟨_,by decide⟩ (by decide)
   unfold LS
   dsimp only
   rw[e,M6 hn l2]
   dsimp only
   rw[if_neg (by omega),if_neg (by unfold ZD;omega),if_neg (by omega),if_neg (by omega),if_neg (by unfold UA;omega),if_pos rfl,if_neg (by omega)]
   simp
  rcases hw1 with rfl|rfl|rfl|rfl|rfl|rfl|rfl
  ·exact key 2 (by decide) h1 h2
  ·exact key 3 (by decide) h1 h2
  ·exact key 10 (by decide) h1 h2
  ·exact key 13 (by decide) h1 h2
  ·exact key 14 (by decide) h1 h2
  ·exact key 15 (by decide) h1 h2
  ·exact key 16 (by decide) h1 h2
 | @host e he=>
  show LS ⟨HX 9,My e⟩=_
  unfold LS
  dsimp only
  rw[show Hp (HX 9)=9 from MF ⟨9,by decide⟩ (by decide),dQ he,if_neg (by decide),if_neg (by decide),if_pos rfl];rfl
 | @pre p hp=>
  show LS ⟨HX 12,NP p⟩=_
  unfold LS
  dsimp only
  rw[show Hp (HX 12)=12 from MF ⟨12,by decide⟩ (by decide),fW hp,if_neg (by decide),if_neg (by decide),if_neg (by decide),if_pos rfl];rfl
theorem jD: ∀{l m:List An},(∀f∈l,XE f)→(∀f∈m,XE f)→l.map HW=m.map HW→l=m:=by
 intro l m hl hm e
 have h1: ∀{l:List An},(∀f∈l,XE f)→(l.map HW).map (fun p=>(LS p).1)=l:=by
  intro l hl
  rw[List.map_map]
  conv=>rhs;rw[←List.map_id l]
  exact List.map_congr_left fun f hf=>by show(LS (HW f)).1=f;rw[ZO (hl f hf)]
 rw[←h1 hl,←h1 hm,e]
def LL(p:AI):Ar UInt8 32×Ar UInt8 32×AA×Int×UInt64×UInt64×List Ao:=(p.Key,p.Psk,p.End,p.Keep,p.Sent,p.Got,p.Allowed.l)
def Mp(c:Be):Ar UInt8 32×Int×UInt32×List (Ar UInt8 32×Ar UInt8 32×AA×Int×UInt64×UInt64×List Ao):=(c.Private,c.Port,c.Mark,c.Peers.l.map LL)
theorem allI{n:Nat}{F:Int→Option (Int⊕(Unit⊕Bool))}{K:Option Bool}(p:Nat→Prop)(hn:n<4611686018427387904)
  (h0: ∀i:Nat,i<n→p i→F (i:Int)=some (.inl (IntKind.i64.wrap ((i:Int)+1)))) (h1: ∀i:Nat,i<n→ ¬p i→F (i:Int)=some (.inr (.inr false)))
  (h2:F (n:Int)=some (.inr (.inl ()))):((∀i,i<n→p i)∧(iter F 0).bind (Sum.elim (fun _=>K) some)=K)∨((¬ ∀i,i<n→p i)∧(iter F 0).bind (Sum.elim (fun _=>K) some)=some false):=by
 classical
 have:=bO (K:=Sum.elim (fun _=>K) some) (k:=0) (n:=n) (fun i=>if p i then none else some false) (Nat.zero_le _) hn (fun i _ hi=>by
  by_cases e:p i
  ·rw[if_pos e,h0 i hi e]
  ·rw[if_neg e,h1 i hi e]) h2
 have this':(iter F 0).bind (Sum.elim (fun _=>K) some)=_:=this
 rw[this']
 cases e:(List.range' 0 (n-0)).findSome? fun i=>if p i then none else some false with
 |none=>
  left
  refine⟨fun i hi=> ?_,rfl⟩
  have h:=List.findSome?_eq_none_iff.1 e i (by simp;omega)
  by_cases q:p i
  ·exact q
  ·rw[if_neg q]at h;cases h
 |some b=>
  right
  obtain⟨i,hi,hb⟩:=List.exists_of_findSome?_eq_some e
  simp only[List.mem_range'_1]at hi
  by_cases q:p i
  ·rw[if_pos q]at hb;cases hb
  ·rw[if_neg q]at hb
   cases hb
   exact⟨fun h=>q (h i (by omega)),rfl⟩
theorem qW(a b:GS Ao)(ha:a.l.length<1000000000):QR a b=some (decide (a.l=b.l)):=by
 unfold QR
 dsimp only
 by_cases h:a.l.length=b.l.length
 ·rw[if_neg (by simp[h])]
  rcases allI (n:=a.l.length) (F:=fun(s4:Int)=>
   if(decide (s4<(a.l.length:Int)))=true then
   (ES a.l s4).bind fun x8=>(ES b.l s4).bind fun x10=>if(!(G7 Db x8 x10))=true then(some false).map fun r=> .inr (.inr r)else some (.inl (IntKind.i64.wrap (s4+1)))
   else some (.inr (.inl ()))) (K:=some true) (fun i=>a.l[i]? =b.l[i]?) (by omega) (fun i hi hp=>by
    have hb:i<b.l.length:=by omega
    rw[List.getElem?_eq_getElem hi,List.getElem?_eq_getElem hb,Option.some.injEq]at hp
    rw[if_pos (by simpa using hi),Bu,Bu,List.getElem?_eq_getElem hi,List.getElem?_eq_getElem hb,Option.bind_some,Option.bind_some,if_neg (by rw[fV,decide_eq_true hp];decide)]) (fun i hi hp=>by
    have hb:i<b.l.length:=by omega
    rw[List.getElem?_eq_getElem hi,List.getElem?_eq_getElem hb,Option.some.injEq]at hp
    rw[if_pos (by simpa using hi),Bu,Bu,List.getElem?_eq_getElem hi,List.getElem?_eq_getElem hb,Option.bind_some,Option.bind_some,if_pos (by rw[fV,decide_eq_false hp];decide)];rfl) (by rw[if_neg (by simp)])with ⟨hq,e⟩|⟨hq,e⟩
  ·refine e.trans (congrArg some (decide_eq_true (List.ext_getElem? fun i=> ?_)).symm)
   by_cases hi:i<a.l.length
   ·exact hq i hi
   ·rw[List.getElem?_eq_none (by omega),List.getElem?_eq_none (by omega)]
  ·exact e.trans (congrArg some (decide_eq_false fun h=>hq fun i _=>by rw[h]).symm)
 ·rw[if_pos (by simp only[Bool.not_eq_true',decide_eq_false_iff_not];omega),decide_eq_false fun e=>h (by rw[e])]
theorem pU(x y:UInt64):decide ((x.toNat:Int)=(y.toNat:Int))=decide (x=y):=by
 by_cases h:x=y
 ·subst h;simp
 ·rw[decide_eq_false h,decide_eq_false]
  intro e
  exact h (UInt64.toNat_inj.1 (by omega))
theorem u32_eq(x y:UInt32):decide ((x.toNat:Int)=(y.toNat:Int))=decide (x=y):=by
 by_cases h:x=y
 ·subst h;simp
 ·rw[decide_eq_false h,decide_eq_false]
  intro e
  exact h (UInt32.toNat_inj.1 (by omega))
open Classical in
theorem XO(p q:AI)(hp:p.Allowed.l.length<1000000000):Io p q=some (decide (LL p=LL q)):=by
 unfold Io
 dsimp only
 rw[vD,vD,cmpE,pU,pU,qW _ _ hp]
 unfold LL
 by_cases h1:p.Key=q.Key<;>by_cases h2:p.Psk=q.Psk<;>by_cases h3:p.End=q.End<;>by_cases h4:p.Keep=q.Keep<;>by_cases h5:p.Sent=q.Sent<;>by_cases h6:p.Got=q.Got<;>by_cases h7:p.Allowed.l=q.Allowed.l<;>simp[De,h1,h2,h3,h4,h5,h6,h7]
open Classical in
theorem mZ(a b:Be)(hs:PP a):QQ a b=some (decide (Mp a=Mp b)):=by
 unfold QQ
 dsimp only
 rw[vD,u32_eq]
 have hlen:(decide ((a.Peers.l.length:Int)=(b.Peers.l.length:Int)))=decide (a.Peers.l.length=b.Peers.l.length):=by
  by_cases h:a.Peers.l.length=b.Peers.l.length<;>simp[h];omega
 rw[hlen]
 by_cases h1:a.Private=b.Private
 ·by_cases h2:a.Port=b.Port
  ·by_cases h3:a.Mark=b.Mark
   ·by_cases h4:a.Peers.l.length=b.Peers.l.length
    ·simp only[h1,h2,h3,h4,decide_true,Bool.not_true,HO,Option.bind_some,Bool.false_eq_true,if_false]
     rcases allI (n:=a.Peers.l.length) (F:=fun(s18:Int)=>
      if(decide (s18<(a.Peers.l.length:Int)))=true then
      (ES a.Peers.l s18).bind fun x24=>(ES b.Peers.l s18).bind fun x27=>(Io x24 x27).bind fun x29=>if(!x29)=true then(some false).map fun r=> .inr (.inr r)else some (.inl (IntKind.i64.wrap (s18+1)))
      else some (.inr (.inl ()))) (K:=some true) (fun i=>(a.Peers.l.map LL)[i]? =(b.Peers.l.map LL)[i]?) (by have:=hs.1;omega) (fun i hi hp=>by
       have hb:i<b.Peers.l.length:=by omega
       have hsm:=hs.2 _ (List.getElem_mem hi)
       rw[List.getElem?_map,List.getElem?_map,List.getElem?_eq_getElem hi,List.getElem?_eq_getElem hb,Option.map_some,Option.map_some,Option.some.injEq]at hp
       rw[if_pos (by simpa using hi),Bu,Bu,List.getElem?_eq_getElem hi,List.getElem?_eq_getElem hb,Option.bind_some,Option.bind_some,XO _ _ (by omega),Option.bind_some,if_neg (by rw[decide_eq_true hp];decide)]) (fun i hi hp=>by
       have hb:i<b.Peers.l.length:=by omega
       have hsm:=hs.2 _ (List.getElem_mem hi)
       rw[List.getElem?_map,List.getElem?_map,List.getElem?_eq_getElem hi,List.getElem?_eq_getElem hb,Option.map_some,Option.map_some,Option.some.injEq]at hp
       rw[if_pos (by simpa using hi),Bu,Bu,List.getElem?_eq_getElem hi,List.getElem?_eq_getElem hb,Option.bind_some,Option.bind_some,XO _ _ (by omega),Option.bind_some,if_pos (by rw[decide_eq_false hp];decide)];rfl) (by rw[if_neg (by simp)])with ⟨hq,e⟩|⟨hq,e⟩
     ·refine Eq.trans ?_ (e.trans (congrArg some (decide_eq_true ?_).symm))
      ·rw[h4]
      ·unfold Mp
       rw[h1,h2,h3,List.ext_getElem? (l₁:=a.Peers.l.map LL) (l₂:=b.Peers.l.map LL) fun i=> ?_]
       by_cases hi:i<a.Peers.l.length
       ·exact hq i hi
       ·rw[List.getElem?_eq_none (by simp;omega),List.getElem?_eq_none (by simp;omega)]
     ·refine Eq.trans ?_ (e.trans (congrArg some (decide_eq_false fun h=>hq fun i _=> ?_).symm))
      ·rw[h4]
      ·have:a.Peers.l.map LL=b.Peers.l.map LL:=congrArg (fun x=>x.2.2.2) h
       rw[this]
    ·simp only[h1,h2,h3,decide_true,Bool.not_true,HO,Option.bind_some,Bool.false_eq_true,if_false,decide_eq_false h4,Bool.not_false,if_true]
     rw[decide_eq_false]
     intro h
     have:a.Peers.l.map LL=b.Peers.l.map LL:=congrArg (fun x=>x.2.2.2) h
     exact h4 (by simpa using congrArg List.length this)
   ·rw[decide_eq_false (p:=Mp a=Mp b) fun h=>h3 (congrArg (fun x=>x.2.2.1) h)]
    simp[h1,h2,h3,HO]
  ·rw[decide_eq_false (p:=Mp a=Mp b) fun h=>h2 (congrArg (fun x=>x.2.1) h)]
   simp[h1,h2,HO]
 ·rw[decide_eq_false (p:=Mp a=Mp b) fun h=>h1 (congrArg (fun x=>x.1) h)]
  simp[h1,HO]
theorem Sw{m n:Int}(hm:KM m)(hn:KM n)(h:Co m=Co n):m=n:=by
 have e: ∀{k:Int},KM k→((Co k).toNat:Int)=k:=fun{k} hk=>by
  obtain⟨j,rfl⟩: ∃j:Nat,k=j:=⟨k.toNat,by have:=hk.1;omega⟩
  have:=hk.2
  rw[gN (by omega)]
 rw[←e hm,←e hn,h]
theorem sZ{m n:UInt32}(h:Co (m.toNat:Int)=Co (n.toNat:Int)):m=n:=by
 have hm:=m.toNat_lt
 have hn:=n.toNat_lt
 have:=congrArg UInt64.toNat h
 rw[gN (by omega),gN (by omega)]at this
 exact UInt32.toNat_inj.1 this
theorem tA{l m:List Ao}(h:l.map fP=m.map fP):l=m:=by
 have:=congrArg (List.map An.P) h
 rw[List.map_map,List.map_map]at this
 have e:An.P∘fP=id:=rfl
 rwa [e,List.map_id,List.map_id]at this
theorem eJ{p q:AI}(hp:KP p)(hq:KP q)(h:Cl p=Cl q):LL p=LL q:=by
 have key: ∀{p q:AI},p.End=yX→ ¬q.End=yX→Cl p=Cl q→False:=by
  intro p q e1 e2 h
  unfold Cl O2 SI at h
  rw[if_pos e1,if_neg e2]at h
  simp only[List.cons_append,List.nil_append,List.append_nil,List.cons.injEq]at h
  have:=congrArg An.Word h.2.2.2.1
  exact absurd (show(14:Int)=9 from this) (by decide)
 by_cases e1:p.End=yX
 ·by_cases e2:q.End=yX
  ·unfold Cl O2 SI at h
   rw[if_pos e1,if_pos e2]at h
   simp only[List.cons_append,List.nil_append,List.append_nil,List.cons.injEq]at h
   obtain⟨a1,a2,_,a4,a5,a6,a7⟩:=h
   unfold LL
   rw[e1,e2,show p.Key=q.Key from congrArg An.Key a1,show p.Psk=q.Psk from congrArg An.Key a2,show p.Sent=q.Sent from congrArg An.N a4,show p.Got=q.Got from congrArg An.N a5,Sw hp.1 hq.1 (congrArg An.N a6),tA a7]
  ·exact(key e1 e2 h).elim
 ·by_cases e2:q.End=yX
  ·exact(key e2 e1 h.symm).elim
  ·unfold Cl O2 SI at h
   rw[if_neg e1,if_neg e2]at h
   simp only[List.cons_append,List.nil_append,List.append_nil,List.cons.injEq]at h
   obtain⟨a1,a2,_,a3,a4,a5,a6,a7⟩:=h
   unfold LL
   rw[show p.Key=q.Key from congrArg An.Key a1,show p.Psk=q.Psk from congrArg An.Key a2,show p.End=q.End from congrArg An.End a3,show p.Sent=q.Sent from congrArg An.N a4,show p.Got=q.Got from congrArg An.N a5,Sw hp.1 hq.1 (congrArg An.N a6),tA a7]
def kM(p:AI):List An:=(Cl p).drop 1
theorem FY(p:AI):Cl p=fK 5 p.Key::kM p:=rfl
theorem bC(p:AI): ∀f∈kM p,(decide (f.Word≠5))=true:=by
 intro f hf
 have:kM p=(fK 8 p.Psk::fN 13 1::((if p.End=yX then []else [fE p.End])++([fN 14 p.Sent,fN 15 p.Got,fN 10 (Co p.Keep)]++p.Allowed.l.map fP))):=by
  unfold kM Cl O2 SI
  simp
 rw[this]at hf
 simp only[List.mem_cons,List.mem_append,List.mem_map,List.not_mem_nil,or_false]at hf
 rcases hf with rfl|rfl|hf|(rfl|rfl|rfl)|⟨x,_,rfl⟩
 ·rfl
 ·rfl
 ·split at hf
  ·cases hf
  ·simp only[List.mem_cons,List.not_mem_nil,or_false]at hf
   subst hf;rfl
 ·rfl
 ·rfl
 ·rfl
 ·rfl
theorem bF{t u r s:List An}(ht: ∀f∈t,(decide (f.Word≠5))=true)(hu: ∀f∈u,(decide (f.Word≠5))=true)(hr: ∀f,r.head?=some f→f.Word=5)(hs: ∀f,s.head?=some f→f.Word=5)(h:t++r=u++s):t=u∧r=s:=by
 have key: ∀{t r:List An},(∀f∈t,(decide (f.Word≠5))=true)→(∀f,r.head?=some f→f.Word=5)→(t++r).takeWhile (fun f=>decide (f.Word≠5))=t:=by
  intro t r ht hr
  rw[List.takeWhile_append_of_pos ht]
  cases r with
  |nil=>simp
  |cons f r=>
   rw[List.takeWhile_cons,if_neg (by have:=hr f rfl;simp[this]),List.append_nil]
 have e:t=u:=by rw[←key ht hr,←key hu hs,h]
 subst e
 exact⟨rfl,List.append_cancel_left h⟩
theorem Yv: ∀(l:List AI) (f:An),(l.flatMap Cl).head?=some f→f.Word=5
 |[],f,h=>by simp at h
 |p::l,f,h=>by
  rw[List.flatMap_cons,FY]at h
  simp only[List.cons_append,List.head?_cons,Option.some.injEq]at h
  subst h;rfl
theorem eE: ∀{l m:List AI},(∀p∈l,KP p)→(∀p∈m,KP p)→l.flatMap Cl=m.flatMap Cl→l.map LL=m.map LL
 |[],[],_,_,_=>rfl
 |[],q::m,_,_,h=>by rw[List.flatMap_cons,FY]at h;simp at h
 |p::l,[],_,_,h=>by rw[List.flatMap_cons,FY]at h;simp at h
 |p::l,q::m,hl,hm,h=>by
  rw[List.flatMap_cons,List.flatMap_cons,FY,FY,List.cons_append,List.cons_append,List.cons.injEq]at h
  obtain⟨h0,h1⟩:=h
  obtain⟨h2,h3⟩:=bF (bC p) (bC q) (Yv l) (Yv m) h1
  have e:Cl p=Cl q:=by rw[FY,FY,h0,h2]
  rw[List.map_cons,List.map_cons,eJ (hl p (by simp)) (hm q (by simp)) e,eE (fun x hx=>hl x (List.mem_cons_of_mem _ hx)) (fun x hx=>hm x (List.mem_cons_of_mem _ hx)) h3]
theorem eK{a b:Be}(ha:F1 a)(hb:F1 b)(h:DC a=DC b):Mp a=Mp b:=by
 unfold DC Rk at h
 simp only[List.cons_append,List.nil_append,List.cons.injEq]at h
 obtain⟨h1,h2,h3,h4⟩:=h
 unfold Mp
 rw[show a.Private=b.Private from congrArg An.Key h1,Sw ha.1 hb.1 (congrArg An.N h2),sZ (congrArg An.N h3),eE ha.2.2.1.1 hb.2.2.1.1 h4]
theorem Y7{c:Be}(h:F1 c):wI (P3 c) ((DC c++[No 0]).map fun f=>E6 (HW f)):=by
 refine⟨rfl,fun x hx=> ?_⟩
 obtain⟨f,hf,rfl⟩:=List.mem_map.1 hx
 have hok:XE f:=by
  rcases List.mem_append.1 hf with h'|h'
  ·exact Zv h f h'
  ·rw[List.mem_singleton.1 h'];exact hU
 have:=QL hok
 exact⟨by unfold E6;simp,this.2.2.2.1⟩
theorem jE{a b:Be}(h:Mp a=Mp b):P3 a=P3 b:=by
 have h1:a.Private=b.Private:=congrArg (fun x=>x.1) h
 have h2:a.Port=b.Port:=congrArg (fun x=>x.2.1) h
 have h3:a.Mark=b.Mark:=congrArg (fun x=>x.2.2.1) h
 have h4:a.Peers.l.map LL=b.Peers.l.map LL:=congrArg (fun x=>x.2.2.2) h
 have e: ∀l:List AI,l.flatMap Cl=(l.map LL).flatMap fun x=>Cl ⟨x.1,x.2.1,x.2.2.1,x.2.2.2.1,x.2.2.2.2.1,x.2.2.2.2.2.1, .mk x.2.2.2.2.2.2⟩:=by
  intro l
  rw[List.flatMap_map]
  rfl
 unfold P3 DC Rk
 rw[h1,h2,h3,e a.Peers.l,h4,←e b.Peers.l]
theorem pY{a b:Be}(ha:F1 a)(hb:F1 b):P3 a=P3 b↔Mp a=Mp b:=by
 refine⟨fun h=> ?_,jE⟩
 have hA:=Y7 ha
 rw[h]at hA
 have e:=pP hA (Y7 hb)
 have ok: ∀{c:Be},F1 c→ ∀f∈DC c++[No 0],XE f:=by
  intro c hc f hf
  rcases List.mem_append.1 hf with h'|h'
  ·exact Zv hc f h'
  ·rw[List.mem_singleton.1 h'];exact hU
 have e2:(DC a++[No 0]).map HW=(DC b++[No 0]).map HW:=by
  refine Yk (by rw[List.map_map,List.map_map];exact e) ?_ ?_
  ·intro p hp
   obtain⟨f,hf,rfl⟩:=List.mem_map.1 hp
   exact QL (ok ha f hf)
  ·intro p hp
   obtain⟨f,hf,rfl⟩:=List.mem_map.1 hp
   exact QL (ok hb f hf)
 exact eK ha hb (List.append_cancel_right (jD (ok ha) (ok hb) e2))
open Classical in
theorem QV(a b:Be):JK a b=some true:=by
 obtain⟨x,hx,sx⟩:=V4 a
 obtain⟨y,hy,sy⟩:=V4 b
 unfold JK
 rw[hx,Option.bind_some]
 cases x with
 |true=>
  rw[show(HO true ((K4 b).bind fun x4=>some x4))=some true from rfl]
  simp only[Option.bind_some,HO,if_true,Hw]
 |false=>
  rw[hy]
  cases y with
  |true=>simp only[Option.bind_some,HO,if_true,Hw,Bool.false_eq_true,if_false]
  |false=>
   have sa:=sx rfl
   have sb:=sy rfl
   rw[XS a sa,XS b sb]
   by_cases ha:F1 a
   ·by_cases hb:F1 b
    ·simp only[Option.bind_some,HO,Bool.false_eq_true,if_false,decide_eq_true ha,decide_eq_true hb,Bool.not_true]
     rw[Tr a sa,Tr b sb,if_pos ha,if_pos hb,mZ a b sa]
     simp only[Option.bind_some]
     have:decide (decide ((P3 a,(0:Int)).1=(P3 b,(0:Int)).1)=decide (Mp a=Mp b))=true:=by
      rw[decide_eq_true_eq]
      have:=pY ha hb
      by_cases e:Mp a=Mp b
      ·rw[decide_eq_true e,decide_eq_true (this.2 e)]
      ·rw[decide_eq_false e,decide_eq_false fun h=>e (this.1 h)]
     rw[this,Hw]
     rfl
    ·simp only[Option.bind_some,HO,Bool.false_eq_true,if_false,decide_eq_true ha,decide_eq_false hb,Bool.not_true,Bool.not_false,if_true,Hw]
   ·simp only[Option.bind_some,HO,Bool.false_eq_true,if_false,decide_eq_false ha,Bool.not_false,if_true,Hw]
end Go.Proofs.YtobejhpigbllpaaGreatDoor.Am

