/-
  Plain laws: which configurations may be.
  Plain laws: the fields of a configuration; the law GetresTexts.
  The law.
-/
import Derived.Test.YtobejhpigbllpaaGreatDoorX5
namespace Go.Proofs.YtobejhpigbllpaaGreatDoor.Am
open Classical
theorem cmpK(x y:Ar UInt8 32):HH (Hs 32 CT.u8) x y=decide (x=y):=
 if h:x=y then(K9 (t:=Ay 32 T.u8) h).trans (decide_eq_true h).symm else(VZ (t:=Ay 32 T.u8) h).trans (decide_eq_false h).symm
theorem eqK'(x y:Ar UInt8 32):Nx x y=true↔x=y:=by
 unfold Nx;rw[cmpK,decide_eq_true_iff]
theorem eqP'(x y:Aq):GN x y=true↔x=y:=by
 unfold GN;simp only[tT,decide_eq_true_iff]
def tm{κ:Type}(l:List κ):List (κ×Bool):=l.map fun k=>(k,true)
theorem cN{κ:Type}{e:κ→κ→Bool}(he: ∀x y,e x y=true↔x=y){k:κ}: ∀{l:List κ},k∈l→(Sz e (tm l) k).getD false=true
 |x::l,hm=>by
  simp only[tm,List.map_cons,Sz]
  by_cases h:k=x
  ·rw[(he k x).2 h];rfl
  ·have:e k x=false:=by simpa using fun g=>h ((he k x).1 g)
   rw[this,cond_false]
   exact cN he ((List.mem_cons.1 hm).resolve_left h)
theorem WU{κ:Type}{e:κ→κ→Bool}(he: ∀x y,e x y=true↔x=y){k:κ}: ∀{l:List κ},k∉l→(Sz e (tm l) k).getD false=false
 |[],_=>rfl
 |x::l,hm=>by
  simp only[tm,List.map_cons,Sz]
  have h: ¬k=x:=fun e=>hm (by simp[e])
  have:e k x=false:=by simpa using fun g=>h ((he k x).1 g)
  rw[this,cond_false]
  exact WU he fun g=>hm (by simp[g])
theorem cM{κ:Type}{e:κ→κ→Bool}(he: ∀x y,e x y=true↔x=y){k:κ}: ∀{l:List κ},k∉l→Sy e (tm l) k true=tm (l++[k])
 |[],_=>rfl
 |x::l,hm=>by
  simp only[tm,List.map_cons,List.cons_append,Sy]
  have h: ¬k=x:=fun e=>hm (by simp[e])
  have:e k x=false:=by simpa using fun g=>h ((he k x).1 g)
  rw[this,cond_false]
  exact congrArg (fun r=>(x,true)::r) (cM he fun g=>hm (by simp[g]))
theorem tm_len{κ:Type}(l:List κ):(tm l).length=l.length:=by simp[tm]
def Q6(l:List Aq)(i:Nat):Prop:= ∃p,l[i]? =some p∧Hb p=true∧(0<i→ ∃q,l[i-1]? =some q∧UA q p=true)
def Rv(l:List Aq):Prop:= ∀i,i<l.length→Q6 l i
theorem TO{l:List Aq}{i:Nat}(hi:i<l.length)(hl:l.length<4611686018427387904){f:Aq→Option Bool}{g:Aq→Aq→Option Bool}(hf: ∀p,f p=some (Hb p))(hg: ∀p q,g p q=some (UA p q)):
  ((f l[i]).bind fun x10=>(HZ (!x10) ((Dx (decide (0<(i:Int))) ((Fo l (IntKind.i64.wrap ((i:Int)-1))).bind fun x14=>(g x14 l[i]).bind fun x17=>some (!x17))).bind fun x19=>some x19)))=some (!decide (Q6 l i)):=by
 rw[hf]
 simp only[Option.bind_some]
 cases hr:Hb l[i]with
 |false=>
  have: ¬Q6 l i:=by
   rintro⟨p,hp,h,_⟩
   rw[List.getElem?_eq_getElem hi]at hp
   cases hp
   rw[hr]at h;cases h
  simp[HZ,this]
 |true=>
  simp only[Bool.not_true,HZ,Bool.false_eq_true,if_false]
  by_cases h0:0<i
  ·have hw:IntKind.i64.wrap ((i:Int)-1)=((i-1:Nat):Int):=by rw[QG (by omega) (by omega)];omega
   rw[decide_eq_true (show(0:Int)<(i:Int) by omega),hw,BD,List.getElem?_eq_getElem (show i-1<l.length by omega)]
   simp only[Dx,if_true,Option.bind_some,hg]
   congr 1
   have:Q6 l i↔UA l[i-1] l[i]=true:=by
    constructor
    ·rintro⟨p,hp,_,h⟩
     rw[List.getElem?_eq_getElem hi]at hp;cases hp
     obtain⟨q,hq,h⟩:=h h0
     rw[List.getElem?_eq_getElem (show i-1<l.length by omega)]at hq;cases hq
     exact h
    ·intro h
     exact⟨_,List.getElem?_eq_getElem hi,hr,fun _=>⟨_,List.getElem?_eq_getElem (show i-1<l.length by omega),h⟩⟩
   by_cases h:Q6 l i
   ·rw[this.1 h];simp[h]
   ·have h':UA l[i-1] l[i]=false:=by simpa using fun g=>h (this.2 g)
    rw[h'];simp[h]
  ·have:Q6 l i:=⟨_,List.getElem?_eq_getElem hi,hr,fun g=>absurd g h0⟩
   rw[decide_eq_false (show¬(0:Int)<(i:Int) by omega)]
   simp[Dx,this]
theorem lP(g:GS Aq)(hl:g.l.length<4611686018427387904):LU g=some (decide (Rv g.l)):=by
 unfold LU
 refine(oY (k:=0) (n:=g.l.length) (fun i=>if Q6 g.l i then none else some false) (by omega) hl ?_ ?_).trans ?_
 rotate_left 2
 ·cases e:(List.range' 0 (g.l.length-0)).findSome? (fun i=>if Q6 g.l i then none else some false)with
  |none=>
   simp only[Sum.elim_inl]
   have:Rv g.l:=fun i hi=>by
    have:=List.findSome?_eq_none_iff.1 e i (by rw[List.mem_range'_1];omega)
    by_cases h:Q6 g.l i
    ·exact h
    ·simp[h]at this
   rw[decide_eq_true this]
  |some b=>
   obtain⟨i,hi,h'⟩:=List.exists_of_findSome?_eq_some e
   rw[List.mem_range'_1]at hi
   by_cases h:Q6 g.l i
   ·simp[h]at h'
   ·simp only[h,if_false,Option.some.injEq]at h'
    subst h'
    have: ¬Rv g.l:=fun r=>h (r i (by omega))
    rw[decide_eq_false this];rfl
 ·intro i _ hi
  rw[if_pos (by simpa using hi),BD,List.getElem?_eq_getElem hi]
  have ht:=TO hi hl (f:=I9) (g:=Ny) Ok tV
  simp only[Option.bind_some]
  rw[Ok]at ht ⊢
  simp only[Option.bind_some]at ht ⊢
  rw[ht]
  by_cases h:Q6 g.l i<;>simp[h]
 ·rw[if_neg (by simp)]
def oP:Ar UInt8 32:=⟨[0,0,0,0,0,0,0,0,0,0,0,0,0,0,0,0,0,0,0,0,0,0,0,0,0,0,0,0,0,0,0,0],rfl⟩
def noE:AF:=⟨Ak.z,0⟩
def MZ(n:Int):Prop:=0≤n∧n≤65535
theorem rH(n:Int):JB n=some (decide (MZ n)):=by
 unfold JB MZ
 by_cases h:0≤n<;>simp[Dx,h]
theorem yV(n:Int):Pt n=some (decide (MZ n)):=by
 unfold Pt MZ
 by_cases h:0≤n<;>simp[Dx,h]
def QR(e:AF):Prop:=e=noE∨Gn e=true
def Pz(p:Ba):Prop:=MZ p.Keep∧QR p.End∧Rv p.Allowed.l
def Hc(l:List Ba):List (Ar UInt8 32):=oP::l.map (·.Key)
def EN(l:List Ba):List Aq:=l.flatMap (·.Allowed.l)
def Good(l:List Ba):Prop:=(∀p∈l,Pz p)∧(Hc l).Nodup∧(EN l).Nodup
def I8(c:B4):Prop:=MZ c.Port∧c.Peers.l.length≤16∧Good c.Peers.l∧(EN c.Peers.l).length≤64
def Rm(c:B4):Prop:=c.Peers.l.length≤20∧ ∀p∈c.Peers.l,p.Allowed.l.length≤80
theorem UC(l:List Ba)(p:Ba):Hc (l++[p])=Hc l++[p.Key]:=by simp[Hc]
theorem Rw(l:List Ba)(p:Ba):EN (l++[p])=EN l++p.Allowed.l:=by simp[EN]
theorem LF{α:Type}{l:List α}{x:α}:(l++[x]).Nodup↔l.Nodup∧x∉l:=by
 rw[List.nodup_append]
 constructor
 ·rintro⟨h1,_,h3⟩;exact⟨h1,fun h=>h3 x h x (by simp) rfl⟩
 ·rintro⟨h1,h2⟩
  refine⟨h1,by simp,fun a ha b hb e=> ?_⟩
  simp only[List.mem_singleton]at hb
  subst hb;subst e;exact h2 ha
theorem aL(l:List Ba)(p:Ba):Good (l++[p])↔Good l∧Pz p∧p.Key∉Hc l∧(EN l++p.Allowed.l).Nodup:=by
 unfold Good
 rw[UC,Rw,LF]
 constructor
 ·rintro⟨h1,⟨h2,h3⟩,h4⟩
  exact⟨⟨fun q hq=>h1 q (by simp[hq]),h2,(List.nodup_append.1 h4).1⟩,h1 p (by simp),h3,h4⟩
 ·rintro⟨⟨h1,h2,_⟩,h3,h4,h5⟩
  refine⟨fun q hq=> ?_,⟨h2,h4⟩,h5⟩
  rcases List.mem_append.1 hq with hq|hq
  ·exact h1 q hq
  ·rw[List.mem_singleton.1 hq];exact h3
theorem Good.take{l:List Ba}(h:Good l)(n:Nat):Good (l.take n):=by
 have e:l=l.take n++l.drop n:=(List.take_append_drop n l).symm
 unfold Good at h ⊢
 refine⟨fun p hp=>h.1 p (List.mem_of_mem_take hp),?_,?_⟩
 ·have:=h.2.1
  rw[e]at this
  simp only[Hc,List.map_append,List.nodup_cons,List.mem_append,not_or,List.nodup_append]at this ⊢
  exact⟨this.1.1,this.2.1⟩
 ·have:=h.2.2
  rw[e]at this
  simp only[EN,List.flatMap_append]at this
  exact(List.nodup_append.1 this).1
theorem gM{ρ:Type}{F:Int×List (Aq×Bool)→Option ((Int×List (Aq×Bool))⊕(List (Aq×Bool)⊕ρ))}(l:List Aq)(bad:ρ)
  (hF: ∀(k:Nat) (m:List (Aq×Bool)) (h:k<l.length),F ((k:Int),m)=if(Sz GN m l[k]).getD false=true then some (.inr (.inr bad))else some (.inl (((k+1:Nat):Int),Sy GN m l[k] true)))
  (hE: ∀m,F ((l.length:Int),m)=some (.inr (.inl m))) (o:List Aq) (ho:o.Nodup):iter F (0,tm o)=some (if(o++l).Nodup then .inl (tm (o++l))else .inr bad):=by
 refine iU (fun s:Int×List (Aq×Bool)=>l.length-s.1.toNat) (fun s:Int×List (Aq×Bool)=> ∃k:Nat,s.1=(k:Int)∧k≤l.length∧s.2=tm (o++l.take k)∧(o++l.take k).Nodup) ?_ ⟨0,rfl,by omega,by simp,by simpa using ho⟩
 rintro⟨s,m⟩ ⟨k,rfl,h1,h2,h3⟩
 dsimp only at h2 ⊢
 subst h2
 by_cases hk:k<l.length
 ·rw[hF k _ hk]
  have ht:l.take (k+1)=l.take k++[l[k]]:=List.take_succ_eq_append_getElem hk
  by_cases hm:l[k]∈o++l.take k
  ·right
   rw[if_pos (cN eqP' hm),if_neg]
   intro hn
   have e:o++l=(o++l.take k++[l[k]])++l.drop (k+1):=by
    rw[List.append_assoc o,←ht,List.append_assoc,List.take_append_drop]
   rw[e]at hn
   exact(LF.1 (List.nodup_append.1 hn).1).2 hm
  ·left
   rw[if_neg (by rw[WU eqP' hm];simp),cM eqP' hm]
   refine⟨_,rfl,⟨k+1,rfl,by omega,?_,?_⟩,by dsimp only;omega⟩
   ·rw[ht,List.append_assoc]
   ·rw[ht,←List.append_assoc,LF];exact⟨h3,hm⟩
 ·obtain rfl:k=l.length:=by omega
  right
  rw[hE]
  rw[List.take_length]at h3 ⊢
  rw[if_pos h3]
theorem lI(c:B4)(hs:Rm c):JC c=some (decide (I8 c)):=by
 have hlen:=hs.1
 unfold JC
 simp only[rH,Option.bind_some]
 by_cases hp:MZ c.Port
 rotate_left
 ·have: ¬I8 c:=fun h=>hp h.1
  simp[HZ,hp,this]
 by_cases h16:16<c.Peers.l.length
 ·have: ¬I8 c:=fun h=>by have:=h.2.1;omega
  have hd:decide (16<(c.Peers.l.length:Int))=true:=decide_eq_true (by omega)
  simp[HZ,hp,this,hd]
 have hd:decide (16<(c.Peers.l.length:Int))=false:=decide_eq_false (by omega)
 have h0:Sy Nx ([]:List ((Ar UInt8 32)×Bool)) (⟨[0,0,0,0,0,0,0,0,0,0,0,0,0,0,0,0,0,0,0,0,0,0,0,0,0,0,0,0,0,0,0,0],rfl⟩:(Ar UInt8 32)) true=tm (Hc []):=rfl
 simp only[HZ,hp,hd,decide_true,Bool.not_true,Bool.false_eq_true,if_false,Option.bind_some,h0]
 refine Cd (fun s=>c.Peers.l.length-s.1.toNat) (fun s=> ∃n:Nat,s.1=(n:Int)∧n≤c.Peers.l.length∧s.2.1=tm (Hc (c.Peers.l.take n))∧s.2.2=tm (EN (c.Peers.l.take n))∧Good (c.Peers.l.take n))
  (fun r=>(r= .inl (tm (EN c.Peers.l))∧Good c.Peers.l)∨(r= .inr false∧ ¬Good c.Peers.l)) ⟨0,rfl,by omega,rfl,rfl,by simp[Good,Hc,EN]⟩ ?_ ?_
 ·rintro⟨s,km,om⟩ ⟨n,rfl,h1,h2,h3,h4⟩
  dsimp only at h2 h3 ⊢
  subst h2 h3
  by_cases hn:n<c.Peers.l.length
  ·have hall:=hs.2 _ (List.getElem_mem hn)
   have ht:c.Peers.l.take (n+1)=c.Peers.l.take n++[c.Peers.l[n]]:=List.take_succ_eq_append_getElem hn
   have hg:=aL (c.Peers.l.take n) c.Peers.l[n]
   rw[←ht]at hg
   have bad: ¬(Pz c.Peers.l[n]∧c.Peers.l[n].Key∉Hc (c.Peers.l.take n)∧(EN (c.Peers.l.take n)++c.Peers.l[n].Allowed.l).Nodup)→ ¬Good c.Peers.l:=fun hb hG=>hb (hg.1 (hG.take (n+1))).2
   rw[if_pos (by simpa using hn),BD,List.getElem?_eq_getElem hn]
   simp only[Option.bind_some]
   by_cases hk:c.Peers.l[n].Key∈Hc (c.Peers.l.take n)
   ·right
    refine⟨.inr false,?_, .inr ⟨rfl,bad fun h=>h.2.1 hk⟩⟩
    rw[cN eqK' hk]
    rfl
   rw[WU eqK' hk]
   by_cases hkeep:MZ c.Peers.l[n].Keep
   rotate_left
   ·right
    refine⟨.inr false,?_, .inr ⟨rfl,bad fun h=>hkeep h.1.1⟩⟩
    rw[decide_eq_false hkeep]
    rfl
   rw[decide_eq_true hkeep]
   simp only[Bool.not_true,Bool.false_eq_true,if_false,Option.bind_some]
   rw[lP _ (by omega)]
   by_cases hris:Rv c.Peers.l[n].Allowed.l
   rotate_left
   ·right
    refine⟨.inr false,?_, .inr ⟨rfl,bad fun h=>hris h.1.2.2⟩⟩
    rw[decide_eq_false hris]
    rfl
   rw[decide_eq_true hris]
   have hend:((F1 c.Peers.l[n].End).bind fun x30=>(Dx (!x30) ((El c.Peers.l[n].End).bind fun x33=>some (!x33))))=some (!decide (QR c.Peers.l[n].End)):=by
    rw[ZF,R5]
    simp only[Option.bind_some]
    by_cases e:c.Peers.l[n].End=⟨Ak.z,0⟩
    ·have:QR c.Peers.l[n].End:= .inl e
     simp[Dx,e,this]
     exact .inl rfl
    ·have:QR c.Peers.l[n].End↔Gn c.Peers.l[n].End=true:=⟨fun h=>h.resolve_left e, .inr⟩
     cases hr:Gn c.Peers.l[n].End with
     |true=>simp[Dx,e,this,hr]
     |false=>simp[Dx,e,this,hr]
   have hend': ∀{γ:Type} (K:Bool→Option γ),((F1 c.Peers.l[n].End).bind fun x30=>(Dx (!x30) ((El c.Peers.l[n].End).bind fun x33=>some (!x33))).bind K)=K (!decide (QR c.Peers.l[n].End)):=fun K=>by
    have:=congrArg (fun x=>x.bind K) hend
    simpa only[Option.bind_assoc,Option.bind_some]using this
   simp only[Bool.not_true,Bool.false_eq_true,if_false,Option.bind_some]
   rw[hend']
   by_cases hE:QR c.Peers.l[n].End
   rotate_left
   ·right
    refine⟨.inr false,?_, .inr ⟨rfl,bad fun h=>hE h.1.2.1⟩⟩
    rw[decide_eq_false hE]
    rfl
   rw[decide_eq_true hE]
   simp only[Bool.not_true,Bool.false_eq_true,if_false]
   have hw1:IntKind.i64.wrap ((n:Int)+1)=((n+1:Nat):Int):=by rw[show(n:Int)+1=((n+1:Nat):Int) by omega,Bz (by omega)]
   by_cases hN:(EN (c.Peers.l.take n)++c.Peers.l[n].Allowed.l).Nodup
   ·left
    refine⟨(((n+1:Nat):Int),tm (Hc (c.Peers.l.take (n+1))),tm (EN (c.Peers.l.take (n+1)))),?_,⟨n+1,rfl,by omega,rfl,rfl,hg.2 ⟨h4,⟨hkeep,hE,hris⟩,hk,hN⟩⟩,by dsimp only;omega⟩
    refine(congrArg (fun x=>Option.bind x _) (gM c.Peers.l[n].Allowed.l (.inr (.inr false)) ?_ ?_ (EN (c.Peers.l.take n)) h4.2.2)).trans ?_
    ·intro k m h
     dsimp only
     rw[if_pos (by simpa using h),BD,List.getElem?_eq_getElem h,show(k:Int)+1=((k+1:Nat):Int) by omega,Bz (by omega)]
     rfl
    ·intro m
     dsimp only
     rw[if_neg (by simp)]
    ·rw[if_pos hN,hw1,cM eqK' hk,ht,UC,Rw]
     rfl
   ·right
    refine⟨.inr false,?_, .inr ⟨rfl,bad fun h=>hN h.2.2⟩⟩
    refine(congrArg (fun x=>Option.bind x _) (gM c.Peers.l[n].Allowed.l (.inr (.inr false)) ?_ ?_ (EN (c.Peers.l.take n)) h4.2.2)).trans ?_
    ·intro k m h
     dsimp only
     rw[if_pos (by simpa using h),BD,List.getElem?_eq_getElem h,show(k:Int)+1=((k+1:Nat):Int) by omega,Bz (by omega)]
     rfl
    ·intro m
     dsimp only
     rw[if_neg (by simp)]
    ·rw[if_neg hN]
     rfl
  ·obtain rfl:n=c.Peers.l.length:=by omega
   right
   rw[if_neg (by simp)]
   rw[List.take_length]at h4 ⊢
   exact⟨_,rfl, .inl ⟨rfl,h4⟩⟩
 ·rintro _ (⟨rfl,hG⟩|⟨rfl,hG⟩)
  ·simp only[Sum.elim_inl,tm_len]
   congr 1
   rw[decide_eq_decide]
   constructor
   ·intro h;exact⟨hp,by omega,hG,by omega⟩
   ·intro h;have:=h.2.2.2;omega
  ·have: ¬I8 c:=fun h=>hG h.2.2.1
   simp[this]
theorem Sd{α β ρ:Type}{l:List α}{x:α}{F:Int→Option (Int⊕(Unit⊕β))}{K:Unit⊕β→Option ρ}{b:β}(n:Nat)(hn:n≤l.length)(hl:l.length<4611686018427387904)
  (h1: ∀i (h:i<n),(l[i]'(by omega)=x→F (i:Int)=some (.inr (.inr b)))∧(l[i]'(by omega)≠x→F (i:Int)=some (.inl (IntKind.i64.wrap ((i:Int)+1))))) (h2:F (n:Int)=some (.inr (.inl ()))):
  (x∈l.take n→(iter F 0).bind K=K (.inr b))∧(x∉l.take n→(iter F 0).bind K=K (.inl ())):=by
 have key:=oY (F:=F) (K:=K) (k:=0) (n:=n) (fun i=>if l[i]? =some x then some b else none) (by omega) (by omega) (fun i _ hi=>by
  have hil:i<l.length:=by omega
  by_cases e:l[i]=x
  ·rw[(h1 i hi).1 e];simp[List.getElem?_eq_getElem hil,e]
  ·rw[(h1 i hi).2 e];simp[List.getElem?_eq_getElem hil,e]) h2
 have key':(iter F 0).bind K=_:=key
 rw[key']
 constructor
 ·intro hx
  cases e:(List.range' 0 (n-0)).findSome? (fun i=>if l[i]? =some x then some b else none)with
  |none=>
   obtain⟨i,hi,hg⟩:=List.getElem_of_mem hx
   rw[List.length_take]at hi
   have:=List.findSome?_eq_none_iff.1 e i (by rw[List.mem_range'_1];omega)
   rw[List.getElem_take]at hg
   rw[List.getElem?_eq_getElem (show i<l.length by omega),hg]at this
   simp at this
  |some c=>
   obtain⟨i,hi,h'⟩:=List.exists_of_findSome?_eq_some e
   split at h'
   ·cases h';rfl
   ·cases h'
 ·intro hx
  cases e:(List.range' 0 (n-0)).findSome? (fun i=>if l[i]? =some x then some b else none)with
  |none=>rfl
  |some c=>
   obtain⟨i,hi,h'⟩:=List.exists_of_findSome?_eq_some e
   rw[List.mem_range'_1]at hi
   split at h'
   ·rename_i hg
    obtain⟨hlt,hg⟩:=List.getElem?_eq_some_iff.1 hg
    exact absurd (List.mem_take_iff_getElem.2 ⟨i,by omega,hg⟩) hx
   ·cases h'
theorem Se{α β ρ:Type}{l:List α}{x:α}{F:Int→Option (Int⊕(Unit⊕β))}{K:Unit⊕β→Option ρ}{b:β}(hl:l.length<4611686018427387904)
  (h1: ∀i (h:i<l.length),(l[i]=x→F (i:Int)=some (.inr (.inr b)))∧(l[i]≠x→F (i:Int)=some (.inl (IntKind.i64.wrap ((i:Int)+1))))) (h2:F (l.length:Int)=some (.inr (.inl ()))):
  (x∈l→(iter F 0).bind K=K (.inr b))∧(x∉l→(iter F 0).bind K=K (.inl ())):=by
 have:=Sd (l:=l) (x:=x) (K:=K) l.length (Nat.le_refl _) hl h1 h2
 rwa [List.take_length]at this
theorem Z4{ρ:Type}{F:Int×GS Aq→Option ((Int×GS Aq)⊕(GS Aq⊕ρ))}(l:List Aq)(bad:ρ)
  (hF: ∀(k:Nat) (m:List Aq) (h:k<l.length),m.length≤1700→F ((k:Int),ZJ m)=some (if Q6 l k∧l[k]∉m then .inl (((k+1:Nat):Int),ZJ (m++[l[k]]))else .inr (.inr bad)))
  (hE: ∀m,F ((l.length:Int),m)=some (.inr (.inl m))) (o:List Aq) (ho:o.Nodup) (hb:o.length+l.length≤1700):iter F (0,ZJ o)=some (if Rv l∧(o++l).Nodup then .inl (ZJ (o++l))else .inr bad):=by
 refine iU (fun s=>l.length-s.1.toNat) (fun s=> ∃k:Nat,s.1=(k:Int)∧k≤l.length∧s.2=ZJ (o++l.take k)∧(o++l.take k).Nodup∧ ∀i,i<k→Q6 l i) ?_ ⟨0,rfl,by omega,by simp,by simpa using ho,fun i hi=>by omega⟩
 rintro⟨s,m⟩ ⟨k,rfl,h1,h2,h3,h5⟩
 dsimp only at h2 ⊢
 subst h2
 by_cases hk:k<l.length
 ·rw[hF k _ hk (by rw[List.length_append,List.length_take];omega)]
  have ht:l.take (k+1)=l.take k++[l[k]]:=List.take_succ_eq_append_getElem hk
  by_cases hm:Q6 l k∧l[k]∉o++l.take k
  ·left
   rw[if_pos hm]
   refine⟨_,rfl,⟨k+1,rfl,by omega,?_,?_,?_⟩,by dsimp only;omega⟩
   ·rw[ht,List.append_assoc]
   ·rw[ht,←List.append_assoc,LF];exact⟨h3,hm.2⟩
   ·intro i hi
    rcases Nat.lt_or_ge i k with h|h
    ·exact h5 i h
    ·obtain rfl:i=k:=by omega
     exact hm.1
  ·right
   rw[if_neg hm,if_neg]
   rintro⟨hr,hn⟩
   refine hm ⟨hr k hk,fun hin=> ?_⟩
   have e:o++l=(o++l.take k++[l[k]])++l.drop (k+1):=by
    rw[List.append_assoc o,←ht,List.append_assoc,List.take_append_drop]
   rw[e]at hn
   exact(LF.1 (List.nodup_append.1 hn).1).2 hin
 ·obtain rfl:k=l.length:=by omega
  right
  rw[hE]
  rw[List.take_length]at h3 ⊢
  rw[if_pos ⟨fun i hi=>h5 i hi,h3⟩]
theorem rY{l:List Ba}{n:Nat}(h: ∀p∈l,p.Allowed.l.length≤n):(EN l).length≤l.length*n:=by
 induction l with
 |nil=>simp[EN]
 |cons p l ih=>
  have h1:=h p (by simp)
  have h2:=ih fun q hq=>h q (by simp[hq])
  simp only[EN,List.flatMap_cons,List.length_append,List.length_cons,Nat.add_mul,Nat.one_mul]at h2 ⊢
  omega
theorem rP(c:B4)(hs:Rm c):PY c=some (decide (I8 c)):=by
 have hlen:=hs.1
 unfold PY
 simp only[yV,Option.bind_some]
 by_cases hp:MZ c.Port
 rotate_left
 ·have: ¬I8 c:=fun h=>hp h.1
  simp[HZ,hp,this]
 by_cases h16:16<c.Peers.l.length
 ·have: ¬I8 c:=fun h=>by have:=h.2.1;omega
  have hd:decide (16<(c.Peers.l.length:Int))=true:=decide_eq_true (by omega)
  simp[HZ,hp,this,hd]
 have hd:decide (16<(c.Peers.l.length:Int))=false:=decide_eq_false (by omega)
 simp only[HZ,hp,hd,decide_true,Bool.not_true,Bool.false_eq_true,if_false,Option.bind_some]
 refine Cd (fun s=>c.Peers.l.length-s.1.toNat) (fun s=> ∃n:Nat,s.1=(n:Int)∧n≤c.Peers.l.length∧s.2=ZJ (EN (c.Peers.l.take n))∧Good (c.Peers.l.take n))
  (fun r=>(r= .inl (ZJ (EN c.Peers.l))∧Good c.Peers.l)∨(r= .inr false∧ ¬Good c.Peers.l)) ⟨0,rfl,by omega,rfl,by simp[Good,Hc,EN]⟩ ?_ ?_
 ·rintro⟨s,om⟩ ⟨n,rfl,h1,h3,h4⟩
  dsimp only at h3 ⊢
  subst h3
  by_cases hn:n<c.Peers.l.length
  ·have hall:=hs.2 _ (List.getElem_mem hn)
   have ht:c.Peers.l.take (n+1)=c.Peers.l.take n++[c.Peers.l[n]]:=List.take_succ_eq_append_getElem hn
   have hg:=aL (c.Peers.l.take n) c.Peers.l[n]
   rw[←ht]at hg
   have bad: ¬(Pz c.Peers.l[n]∧c.Peers.l[n].Key∉Hc (c.Peers.l.take n)∧(EN (c.Peers.l.take n)++c.Peers.l[n].Allowed.l).Nodup)→ ¬Good c.Peers.l:=fun hb hG=>hb (hg.1 (hG.take (n+1))).2
   have hkz:c.Peers.l[n].Key∈Hc (c.Peers.l.take n)↔c.Peers.l[n].Key=oP∨c.Peers.l[n].Key∈(c.Peers.l.take n).map (·.Key):=by simp[Hc]
   have hpl:(EN (c.Peers.l.take n)).length≤1600:=by
    have:=rY (l:=c.Peers.l.take n) (n:=80) fun p hp=>hs.2 p (List.mem_of_mem_take hp)
    rw[List.length_take]at this
    have h2:min n c.Peers.l.length*80≤20*80:=Nat.mul_le_mul_right _ (by omega)
    omega
   have hw1:IntKind.i64.wrap ((n:Int)+1)=((n+1:Nat):Int):=by rw[show(n:Int)+1=((n+1:Nat):Int) by omega,Bz (by omega)]
   rw[if_pos (by simpa using hn),BD,List.getElem?_eq_getElem hn]
   simp only[Option.bind_some,cmpK]
   have hz:(⟨[0,0,0,0,0,0,0,0,0,0,0,0,0,0,0,0,0,0,0,0,0,0,0,0,0,0,0,0,0,0,0,0],rfl⟩:(Ar UInt8 32))=oP:=rfl
   rw[hz]
   by_cases hk0:c.Peers.l[n].Key=oP
   ·right
    refine⟨.inr false,?_, .inr ⟨rfl,bad fun h=>h.2.1 (hkz.2 (.inl hk0))⟩⟩
    rw[decide_eq_true hk0]
    rfl
   rw[decide_eq_false hk0]
   by_cases hkeep:MZ c.Peers.l[n].Keep
   rotate_left
   ·right
    refine⟨.inr false,?_, .inr ⟨rfl,bad fun h=>hkeep h.1.1⟩⟩
    rw[decide_eq_false hkeep]
    rfl
   rw[decide_eq_true hkeep]
   have hend: ∀{γ:Type} (K:Bool→Option γ),((Dx (!(HH Cu c.Peers.l[n].End (⟨Ak.z,0⟩:AF))) ((Lv c.Peers.l[n].End).bind fun x29=>some (!x29))).bind K)=K (!decide (QR c.Peers.l[n].End)):=fun K=>by
    simp only[cmpE,Zx,Option.bind_some]
    by_cases e:c.Peers.l[n].End=⟨Ak.z,0⟩
    ·have:QR c.Peers.l[n].End:= .inl e
     rw[decide_eq_true e,decide_eq_true this];rfl
    ·have:QR c.Peers.l[n].End↔Gn c.Peers.l[n].End=true:=⟨fun h=>h.resolve_left e, .inr⟩
     rw[decide_eq_false e]
     cases hr:Gn c.Peers.l[n].End with
     |true=>rw[decide_eq_true (this.2 hr)];rfl
     |false=>rw[decide_eq_false (fun h=>by rw[this.1 h]at hr;cases hr)];rfl
   simp only[Bool.not_true,Bool.false_eq_true,if_false,Option.bind_some]
   rw[hend]
   by_cases hE:QR c.Peers.l[n].End
   rotate_left
   ·right
    refine⟨.inr false,?_, .inr ⟨rfl,bad fun h=>hE h.1.2.1⟩⟩
    rw[decide_eq_false hE]
    rfl
   rw[decide_eq_true hE]
   simp only[Bool.not_true,Bool.false_eq_true,if_false,Option.bind_some]
   have hmem:c.Peers.l[n].Key∈(c.Peers.l.map (·.Key)).take n↔c.Peers.l[n].Key∈(c.Peers.l.take n).map (·.Key):=by rw[List.map_take]
   by_cases hk1:c.Peers.l[n].Key∈(c.Peers.l.map (·.Key)).take n
   ·right
    refine⟨.inr false,?_, .inr ⟨rfl,bad fun h=>h.2.1 (hkz.2 (.inr (hmem.1 hk1)))⟩⟩
    refine((Sd (l:=c.Peers.l.map (·.Key)) (b:= .inr (.inr false)) n (by rw[List.length_map];omega) (by rw[List.length_map];omega) ?_ ?_).1 hk1).trans ?_
    ·intro i hi
     rw[if_pos (by rw[decide_eq_true_eq];omega),BD,List.getElem?_eq_getElem (show i<c.Peers.l.length by omega),List.getElem_map]
     simp only[Option.bind_some]
     exact⟨fun e=>by rw[if_pos (decide_eq_true e)];rfl,fun e=>by rw[if_neg (by rw[decide_eq_false e];simp)]⟩
    ·rw[if_neg (by rw[decide_eq_true_eq];omega)]
    ·rfl
   have hk:c.Peers.l[n].Key∉Hc (c.Peers.l.take n):=fun h=>(hkz.1 h).elim hk0 fun h=>hk1 (hmem.2 h)
   by_cases hN:Rv c.Peers.l[n].Allowed.l∧(EN (c.Peers.l.take n)++c.Peers.l[n].Allowed.l).Nodup
   ·left
    refine⟨(((n+1:Nat):Int),ZJ (EN (c.Peers.l.take (n+1)))),?_,⟨n+1,rfl,by omega,rfl,hg.2 ⟨h4,⟨hkeep,hE,hN.1⟩,hk,hN.2⟩⟩,by dsimp only;omega⟩
    refine((Sd (l:=c.Peers.l.map (·.Key)) (b:= .inr (.inr false)) n (by rw[List.length_map];omega) (by rw[List.length_map];omega) ?_ ?_).2 hk1).trans ?_
    ·intro i hi
     rw[if_pos (by rw[decide_eq_true_eq];omega),BD,List.getElem?_eq_getElem (show i<c.Peers.l.length by omega),List.getElem_map]
     simp only[Option.bind_some]
     exact⟨fun e=>by rw[if_pos (decide_eq_true e)];rfl,fun e=>by rw[if_neg (by rw[decide_eq_false e];simp)]⟩
    ·rw[if_neg (by rw[decide_eq_true_eq];omega)]
    ·dsimp only[Sum.elim_inl]
     refine(congrArg (fun x=>Option.bind x _) (Z4 c.Peers.l[n].Allowed.l (.inr (.inr false)) ?_ ?_ (EN (c.Peers.l.take n)) h4.2.2 (by omega))).trans ?_
     ·intro k m h hm
      have hgl:=QX m
      have htst:=TO h (by omega) (f:=JJ) (g:=Nc) Nb gG
      dsimp only
      rw[if_pos (by simpa using h),BD,List.getElem?_eq_getElem h,Option.bind_some]
      simp only[HZ]at htst
      rw[Nb]at htst ⊢
      simp only[Option.bind_some]at htst ⊢
      rw[htst]
      by_cases hok:Q6 c.Peers.l[n].Allowed.l k
      ·rw[decide_eq_true hok]
       simp only[Option.bind_some,Bool.not_true,Bool.false_eq_true,if_false]
       by_cases hin:c.Peers.l[n].Allowed.l[k]∈m
       ·rw[if_neg (fun h=>h.2 hin)]
        refine((Se (l:=m) (x:=c.Peers.l[n].Allowed.l[k]) (b:=(Sum.inr (Sum.inr (Sum.inr (Sum.inr false))):(Int×GS Aq)⊕(GS Aq⊕((Int×GS Aq)⊕(GS Aq⊕Bool))))) (by omega) ?_ ?_).1 hin).trans ?_
        skip
        ·intro i hi
         rw[if_pos (by rw[decide_eq_true_eq,hgl];omega),Cl (by rw[hgl];exact hi),Option.bind_some,hgl,List.getElem?_eq_getElem hi]
         simp only[Option.map_some,Option.bind_some,tT]
         exact⟨fun e=>by rw[if_pos (decide_eq_true e)],fun e=>by rw[if_neg (by rw[decide_eq_false e];simp)]⟩
        ·rw[if_neg (by rw[decide_eq_true_eq,hgl];omega)]
        ·rfl
       ·rw[if_pos ⟨hok,hin⟩]
        refine((Se (l:=m) (x:=c.Peers.l[n].Allowed.l[k]) (b:=(Sum.inr (Sum.inr (Sum.inr (Sum.inr false))):(Int×GS Aq)⊕(GS Aq⊕((Int×GS Aq)⊕(GS Aq⊕Bool))))) (by omega) ?_ ?_).2 hin).trans ?_
        skip
        ·intro i hi
         rw[if_pos (by rw[decide_eq_true_eq,hgl];omega),Cl (by rw[hgl];exact hi),Option.bind_some,hgl,List.getElem?_eq_getElem hi]
         simp only[Option.map_some,Option.bind_some,tT]
         exact⟨fun e=>by rw[if_pos (decide_eq_true e)],fun e=>by rw[if_neg (by rw[decide_eq_false e];simp)]⟩
        ·rw[if_neg (by rw[decide_eq_true_eq,hgl];omega)]
        ·dsimp only[Sum.elim_inl]
         rw[Kn (by rw[hgl];unfold Be;omega),show(k:Int)+1=((k+1:Nat):Int) by omega,Bz (by omega),hgl,PD]
         rfl
      ·rw[decide_eq_false hok,if_neg (fun h=>hok h.1)]
       rfl
     ·intro m
      dsimp only
      rw[if_neg (by simp)]
     ·rw[if_pos hN,hw1,ht,Rw]
      rfl
   ·right
    refine⟨.inr false,?_, .inr ⟨rfl,bad fun h=>hN ⟨h.1.2.2,h.2.2⟩⟩⟩
    refine((Sd (l:=c.Peers.l.map (·.Key)) (b:= .inr (.inr false)) n (by rw[List.length_map];omega) (by rw[List.length_map];omega) ?_ ?_).2 hk1).trans ?_
    ·intro i hi
     rw[if_pos (by rw[decide_eq_true_eq];omega),BD,List.getElem?_eq_getElem (show i<c.Peers.l.length by omega),List.getElem_map]
     simp only[Option.bind_some]
     exact⟨fun e=>by rw[if_pos (decide_eq_true e)];rfl,fun e=>by rw[if_neg (by rw[decide_eq_false e];simp)]⟩
    ·rw[if_neg (by rw[decide_eq_true_eq];omega)]
    ·dsimp only[Sum.elim_inl]
     refine(congrArg (fun x=>Option.bind x _) (Z4 c.Peers.l[n].Allowed.l (.inr (.inr false)) ?_ ?_ (EN (c.Peers.l.take n)) h4.2.2 (by omega))).trans ?_
     ·intro k m h hm
      have hgl:=QX m
      have htst:=TO h (by omega) (f:=JJ) (g:=Nc) Nb gG
      dsimp only
      rw[if_pos (by simpa using h),BD,List.getElem?_eq_getElem h,Option.bind_some]
      simp only[HZ]at htst
      rw[Nb]at htst ⊢
      simp only[Option.bind_some]at htst ⊢
      rw[htst]
      by_cases hok:Q6 c.Peers.l[n].Allowed.l k
      ·rw[decide_eq_true hok]
       simp only[Option.bind_some,Bool.not_true,Bool.false_eq_true,if_false]
       by_cases hin:c.Peers.l[n].Allowed.l[k]∈m
       ·rw[if_neg (fun h=>h.2 hin)]
        refine((Se (l:=m) (x:=c.Peers.l[n].Allowed.l[k]) (b:=(Sum.inr (Sum.inr (Sum.inr (Sum.inr false))):(Int×GS Aq)⊕(GS Aq⊕((Int×GS Aq)⊕(GS Aq⊕Bool))))) (by omega) ?_ ?_).1 hin).trans ?_
        skip
        ·intro i hi
         rw[if_pos (by rw[decide_eq_true_eq,hgl];omega),Cl (by rw[hgl];exact hi),Option.bind_some,hgl,List.getElem?_eq_getElem hi]
         simp only[Option.map_some,Option.bind_some,tT]
         exact⟨fun e=>by rw[if_pos (decide_eq_true e)],fun e=>by rw[if_neg (by rw[decide_eq_false e];simp)]⟩
        ·rw[if_neg (by rw[decide_eq_true_eq,hgl];omega)]
        ·rfl
       ·rw[if_pos ⟨hok,hin⟩]
        refine((Se (l:=m) (x:=c.Peers.l[n].Allowed.l[k]) (b:=(Sum.inr (Sum.inr (Sum.inr (Sum.inr false))):(Int×GS Aq)⊕(GS Aq⊕((Int×GS Aq)⊕(GS Aq⊕Bool))))) (by omega) ?_ ?_).2 hin).trans ?_
        skip
        ·intro i hi
         rw[if_pos (by rw[decide_eq_true_eq,hgl];omega),Cl (by rw[hgl];exact hi),Option.bind_some,hgl,List.getElem?_eq_getElem hi]
         simp only[Option.map_some,Option.bind_some,tT]
         exact⟨fun e=>by rw[if_pos (decide_eq_true e)],fun e=>by rw[if_neg (by rw[decide_eq_false e];simp)]⟩
        ·rw[if_neg (by rw[decide_eq_true_eq,hgl];omega)]
        ·dsimp only[Sum.elim_inl]
         rw[Kn (by rw[hgl];unfold Be;omega),show(k:Int)+1=((k+1:Nat):Int) by omega,Bz (by omega),hgl,PD]
         rfl
      ·rw[decide_eq_false hok,if_neg (fun h=>hok h.1)]
       rfl
     ·intro m
      dsimp only
      rw[if_neg (by simp)]
     ·rw[if_neg hN]
      rfl
  ·obtain rfl:n=c.Peers.l.length:=by omega
   right
   rw[if_neg (by simp)]
   rw[List.take_length]at h4 ⊢
   exact⟨_,rfl, .inl ⟨rfl,h4⟩⟩
 ·rintro _ (⟨rfl,hG⟩|⟨rfl,hG⟩)
  ·simp only[Sum.elim_inl,QX]
   congr 1
   rw[decide_eq_decide]
   constructor
   ·intro h;exact⟨hp,by omega,hG,by omega⟩
   ·intro h;have:=h.2.2.2;omega
  ·have: ¬I8 c:=fun h=>hG h.2.2.1
   simp[this]
end Go.Proofs.YtobejhpigbllpaaGreatDoor.Am
namespace Go.Proofs.YtobejhpigbllpaaGreatDoor.Am
theorem Sx{σ β:Type}(n:Nat)(S:Nat→σ){F:σ→Option (σ⊕β)}{r:β}{s:σ}(h0:s=S 0)(h1: ∀i,i<n→F (S i)=some (.inl (S (i+1))))(h2:F (S n)=some (.inr r)):iter F s=some r:=by
 subst h0
 have key: ∀k,k≤n→iter F (S (n-k))=some r:=by
  intro k
  induction k with
  |zero=>intro _;exact TX h2
  |succ k ih=>
   intro hk
   rw[Qj (h1 (n-(k+1)) (by omega)),show n-(k+1)+1=n-k by omega]
   exact ih (by omega)
 have:=key n (Nat.le_refl _)
 rwa [Nat.sub_self]at this
theorem XW{α:Type}{bytes:Nat}{l m:List α}(h:(l.length+m.length)*bytes≤Be):Wc bytes (GS.mk l) m=some (.mk (l++m)):=by
 unfold Wc
 rw[EY,if_pos h]
 rfl
abbrev fK(w:Int)(K:Ar UInt8 32):Ap:=⟨w,K,0,zE,zP⟩
abbrev fN(w:Int)(n:UInt64):Ap:=⟨w,zK,n,zE,zP⟩
abbrev fE(e:AF):Ap:=⟨9,zK,0,e,zP⟩
abbrev fP(p:Aq):Ap:=⟨12,zK,0,zE,p⟩
def Oi(p:Ba):List Ap:=[fK 5 p.Key,fK 8 p.Psk,fN 13 1]++if p.End=noE then []else [fE p.End]
def Jj(p:Ba):List Ap:=Oi p++[fN 14 p.Sent,fN 15 p.Got,fN 10 (BQ p.Keep)]
def C5(p:Ba):List Ap:=Jj p++p.Allowed.l.map fP
def Jk(c:B4):List Ap:=[fK 1 c.Private,fN 2 (BQ c.Port),fN 3 (BQ (c.Mark.toNat:Int))]
def E5(c:B4):List Ap:=Jk c++c.Peers.l.flatMap C5
theorem kM(p:Ba):(Oi p).length≤4:=by unfold Oi;split<;>simp
theorem TZ(p:Ba):(Jj p).length≤7:=by
 have:=kM p;unfold Jj;simp only[List.length_append,List.length_cons,List.length_nil];omega
theorem UI(p:Ba):(C5 p).length≤7+p.Allowed.l.length:=by
 have:=TZ p;unfold C5;simp only[List.length_append,List.length_map];omega
theorem ZM: ∀l:List Ba,(l.flatMap C5).length≤7*l.length+(EN l).length
 |[]=>by simp
 |p::l=>by
  have h1:=ZM l
  have h2:=UI p
  simp only[List.flatMap_cons,List.length_append,List.length_cons,EN]at h1 ⊢
  omega
theorem Zo(l:List Ba)(i:Nat):((l.take i).flatMap C5).length≤(l.flatMap C5).length:=by
 conv=>rhs;rw[←List.take_append_drop i l,List.flatMap_append,List.length_append]
 omega
theorem Xu{α β:Type}(f:α→List β)(l:List α){i:Nat}(h:i<l.length):(l.take (i+1)).flatMap f=(l.take i).flatMap f++f l[i]:=by
 rw[List.take_succ_eq_append_getElem h,List.flatMap_append];simp
theorem map_take{α β:Type}(f:α→β)(l:List α){i:Nat}(h:i<l.length):(l.take (i+1)).map f=(l.take i).map f++[f l[i]]:=by
 rw[List.take_succ_eq_append_getElem h,List.map_append];rfl
theorem vU(p:Ba)(h:p.Allowed.l.length≤1000):K4 p=some (.mk (C5 p)):=by
 have hl: ∀q:GS Ap,q= .mk (Oi p)→(Wc 112 q [fN 14 p.Sent,fN 15 p.Got,fN 10 (BQ p.Keep)])=some (.mk (Jj p)):=by
  rintro _ rfl
  have:=kM p
  rw[XW (by unfold Be;simp only[List.length_cons,List.length_nil];omega)]
  rfl
 unfold K4
 refine(congrArg (fun x:Option Bool=>x.bind _) (ZF p.End)).trans ?_
 have he:(if(!decide (p.End=(⟨Ak.z,0⟩:AF)))=true then(Wc 112 (GS.mk [fK 5 p.Key,fK 8 p.Psk,fN 13 1]) [fE p.End]).bind fun x38=>some (.inl x38)else some (.inl (GS.mk [fK 5 p.Key,fK 8 p.Psk,fN 13 1])):Option (GS Ap⊕GS Ap))=some (.inl (.mk (Oi p))):=by
  by_cases hn:p.End=noE
  ·have hn':p.End=(⟨Ak.z,0⟩:AF):=hn
   rw[if_neg (by rw[decide_eq_true hn'];decide)]
   unfold Oi
   rw[if_pos hn]
   rfl
  ·have hn': ¬p.End=(⟨Ak.z,0⟩:AF):=hn
   rw[if_pos (by rw[decide_eq_false hn'];rfl),XW (by unfold Be;simp only[List.length_cons,List.length_nil];omega)]
   unfold Oi
   rw[if_neg hn]
   rfl
 refine(congrArg (fun x:Option (GS Ap⊕GS Ap)=>x.bind _) he).trans ?_
 refine(congrArg (fun x:Option (GS Ap)=>x.bind _) (hl _ rfl)).trans ?_
 have hh:=TZ p
 have hi:(iter _ ((0:Int),GS.mk (Jj p)):Option (GS Ap⊕GS Ap))=some (.inl (.mk (C5 p))):=
  Sx (F:=fun s23:Int×GS Ap=>(if(decide (s23.1<(p.Allowed.l.length:Int)))=true then
   (Fo p.Allowed.l s23.1).bind fun x26=>(Wc 112 s23.2 [fP x26]).bind fun x33=>some (.inl (IntKind.i64.wrap (s23.1+1),x33))else some (.inr (.inl s23.2)):Option ((Int×GS Ap)⊕(GS Ap⊕GS Ap))))
   p.Allowed.l.length (fun i=>((i:Int),GS.mk (Jj p++(p.Allowed.l.take i).map fP))) (by simp) (by
   intro i hi
   dsimp only
   rw[if_pos (by simpa using hi),BD,List.getElem?_eq_getElem hi,Option.bind_some,XW (by unfold Be;simp only[List.length_append,List.length_map,List.length_take,List.length_cons,List.length_nil];omega),Option.bind_some,map_take fP _ hi,show(i:Int)+1=((i+1:Nat):Int) by omega,Bz (by omega),List.append_assoc]) (by
   dsimp only
   rw[if_neg (by simp),List.take_length];first|done|rfl)
 exact(congrArg (fun x:Option (GS Ap⊕GS Ap)=>x.bind _) hi).trans rfl
theorem Zz{l:List Ba}{p:Ba}(h:p∈l):p.Allowed.l.length≤(EN l).length:=by
 induction l with
 |nil=>cases h
 |cons q l ih=>
  simp only[EN,List.flatMap_cons,List.length_append]at ih ⊢
  rcases List.mem_cons.1 h with rfl|h
  ·omega
  ·have:=ih h;omega
theorem SI{c:B4}(h:I8 c):(c.Peers.l.flatMap C5).length≤176:=by
 have:=ZM c.Peers.l
 have h1:=h.2.1
 have h2:=h.2.2.2
 omega
def VQ(l:List Ap):AM:=RJ (l.map fun f=>GC (Kw f))
theorem oV(l m:List Ap):VQ (l++m)=VQ l++VQ m:=by unfold VQ;rw[List.map_append,aP]
theorem aQ(f:Ap):VQ [f]=GC (Kw f)++[10]:=oS _
theorem oU{l:List Ap}(h: ∀f∈l,RI f):(VQ l).length≤l.length*513:=by
 have:=oT (l.map fun f=>GC (Kw f)) 512 (fun x hx=>by
  obtain⟨f,hf,rfl⟩:=List.mem_map.1 hx
  exact(Sf (h f hf)).2.2.2.2)
 rwa [List.length_map]at this
theorem Aa3{γ:Type}{l:List Ap}{f:Ap}{K:AM→Option γ}(hf:RI f)(hl: ∀f∈l,RI f)(hn:l.length≤1000):
  ((Eh f).bind fun x=>(if(VQ l).length+x.length≤2*Be then some (VQ l++x)else none).bind K)=K (VQ (l++[f])):=by
 have h1:=oU hl
 have h2:=(Sf hf).2.2.2.2
 rw[Sk hf,Option.bind_some,if_pos (by simp only[List.length_append,List.length_cons,List.length_nil];unfold Be;omega),Option.bind_some,oV,aQ]
theorem Zl{n:Int}(h:MZ n):(BQ n).toNat≤65535:=by
 obtain⟨m,rfl⟩: ∃m:Nat,n=m:=⟨n.toNat,by have:=h.1;omega⟩
 have:=h.2
 rw[u64N (by omega)];omega
theorem cI{c:B4}(h:MZ c.Port): ∀f∈Jk c,RI f:=by
 intro f hf
 simp only[Jk,List.mem_cons,List.not_mem_nil,or_false]at hf
 rcases hf with rfl|rfl|rfl
 ·exact .key (.inl rfl)
 ·exact .num (.inl rfl) (Nat.zero_le _) (Zl h)
 ·refine .num (.inr (.inl rfl)) (Nat.zero_le _) ?_
  have:=c.Mark.toNat_lt
  rw[u64N (by omega)]
  show c.Mark.toNat≤4294967295
  omega
theorem ok_end{p:Ba}(h:Pz p): ∀f∈Oi p,RI f:=by
 intro f hf
 unfold Oi at hf
 rcases List.mem_append.1 hf with hf|hf
 ·simp only[List.mem_cons,List.not_mem_nil,or_false]at hf
  rcases hf with rfl|rfl|rfl
  ·exact .key (.inr (.inl rfl))
  ·exact .key (.inr (.inr rfl))
  ·exact .num (.inr (.inr (.inr (.inl rfl)))) (by decide) (by decide)
 ·split at hf
  ·cases hf
  ·rename_i hne
   simp only[List.mem_cons,List.not_mem_nil,or_false]at hf
   subst hf
   exact .host (h.2.1.resolve_left hne)
theorem VV{p:Ba}(h:Pz p): ∀f∈C5 p,RI f:=by
 intro f hf
 unfold C5 Jj at hf
 rcases List.mem_append.1 hf with hf|hf
 ·rcases List.mem_append.1 hf with hf|hf
  ·exact ok_end h f hf
  ·simp only[List.mem_cons,List.not_mem_nil,or_false]at hf
   rcases hf with rfl|rfl|rfl
   ·exact .num (.inr (.inr (.inr (.inr (.inl rfl))))) (Nat.zero_le _) (by have:=p.Sent.toNat_lt;show p.Sent.toNat≤18446744073709551615;omega)
   ·exact .num (.inr (.inr (.inr (.inr (.inr (.inl rfl)))))) (Nat.zero_le _) (by have:=p.Got.toNat_lt;show p.Got.toNat≤18446744073709551615;omega)
   ·exact .num (.inr (.inr (.inl rfl))) (Nat.zero_le _) (Zl h.1)
 ·obtain⟨q,hq,rfl⟩:=List.mem_map.1 hf
  obtain⟨i,hi,rfl⟩:=List.mem_iff_getElem.1 hq
  obtain⟨p',hp',hr,_⟩:=h.2.2 i hi
  rw[List.getElem?_eq_getElem hi]at hp'
  cases hp'
  exact .pre hr
theorem pG{l:List Ba}(h: ∀p∈l,Pz p): ∀f∈l.flatMap C5,RI f:=by
 intro f hf
 obtain⟨p,hp,hf⟩:=List.mem_flatMap.1 hf
 exact VV (h p hp) f hf
theorem pH{c:B4}(h:I8 c): ∀f∈E5 c,RI f:=by
 intro f hf
 rcases List.mem_append.1 hf with hf|hf
 ·exact cI h.1 f hf
 ·exact pG h.2.2.1.1 f hf
theorem ok_err:RI (QD 0):= .num (w:=16) (n:=0) (.inr (.inr (.inr (.inr (.inr (.inr rfl)))))) (by decide) (by decide)
def Zn(c:B4):AM:=VQ (E5 c++[QD 0])++[10]
open Classical in
theorem jA(c:B4)(hs:Rm c):He c=some (if I8 c then(Zn c,0)else([],1)):=by
 have hr:=lI c hs
 unfold He
 by_cases hc:I8 c
 ·rw[decide_eq_true hc]at hr
  have hf:=SI hc
  have hlen:(E5 c++[QD 0]).length≤180:=by
   unfold E5 Jk
   simp only[List.length_append,List.length_cons,List.length_nil]
   omega
  have hok: ∀f∈E5 c++[QD 0],RI f:=by
   intro f h
   rcases List.mem_append.1 h with h|h
   ·exact pH hc f h
   ·simp only[List.mem_cons,List.not_mem_nil,or_false]at h
    subst h;exact ok_err
  refine(congrArg (fun x:Option Bool=>x.bind _) hr).trans ?_
  have hi:(iter _ ((0:Int),GS.mk (Jk c)):Option (GS Ap⊕(AM×Int)))=some (.inl (.mk (E5 c))):=
   Sx (F:=fun s15:Int×GS Ap=>(if(decide (s15.1<(c.Peers.l.length:Int)))=true then
    (Fo c.Peers.l s15.1).bind fun x18=>(K4 x18).bind fun x23=>(Wc 112 s15.2 x23.l).bind fun x24=>some (.inl (IntKind.i64.wrap (s15.1+1),x24))else some (.inr (.inl s15.2)):Option ((Int×GS Ap)⊕(GS Ap⊕(AM×Int)))))
    c.Peers.l.length (fun i=>((i:Int),GS.mk (Jk c++(c.Peers.l.take i).flatMap C5))) (by simp) (by
    intro i hi
    have hb:=Zo c.Peers.l i
    have hp:=Zz (List.getElem_mem hi)
    have h64:=hc.2.2.2
    have hfl:=UI c.Peers.l[i]
    dsimp only
    rw[if_pos (by simpa using hi),BD,List.getElem?_eq_getElem hi,Option.bind_some,vU _ (by omega),Option.bind_some,EY,XW (by unfold Be Jk;simp only[List.length_append,List.length_cons,List.length_nil];omega),Option.bind_some,Xu _ _ hi,show(i:Int)+1=((i+1:Nat):Int) by omega,Bz (by have:=hc.2.1;omega),List.append_assoc]) (by
    dsimp only
    rw[if_neg (by simp),List.take_length];first|done|rfl)
  refine(congrArg (fun x:Option (GS Ap⊕(AM×Int))=>x.bind _) hi).trans ?_
  have h1:Wc 112 (GS.mk (E5 c)) [QD 0]=some (.mk (E5 c++[QD 0])):=XW (by
   simp only[List.length_append,List.length_cons,List.length_nil]at hlen ⊢
   unfold Be;omega)
  refine(congrArg (fun x:Option (GS Ap)=>x.bind _) h1).trans ?_
  have h2:Gv (.mk (E5 c++[QD 0]))=some (.mk ((E5 c++[QD 0]).map Kw)):=by
   rw[TK _ ((E5 c++[QD 0]).map fun f=>(Kw f,0)) ?_ (by rw[EY];omega)]
   ·rw[List.map_map]
    rfl
   ·rw[EY,List.map_map]
    exact List.map_congr_left fun f hf=>pair_ok (hok f hf)
  refine(congrArg (fun x:Option (GS A7)=>x.bind _) h2).trans ?_
  have h3:Ei (.mk ((E5 c++[QD 0]).map Kw))=some (Zn c,0):=by
   rw[ZY _ ?_]
   ·unfold Uo
    rw[EY,if_neg (by rw[List.length_map];omega),List.find?_eq_none.2 ?_]
    ·show some (RJ (((E5 c++[QD 0]).map Kw).map GC)++[10],(0:Int))=_
     rw[List.map_map]
     rfl
    ·intro p hp
     obtain⟨f,hf,rfl⟩:=List.mem_map.1 hp
     rw[badP_of (Sf (hok f hf))]
     decide
   ·intro p hp
    obtain⟨f,hf,rfl⟩:=List.mem_map.1 hp
    have:=(Sf (hok f hf)).2.2.2.2
    unfold GC at this
    simp only[List.length_append,List.length_cons]at this
    omega
  refine(congrArg (fun x:Option (AM×Int)=>x.bind _) h3).trans ?_
  rw[if_pos hc]
  rfl
 ·rw[decide_eq_false hc]at hr
  refine(congrArg (fun x:Option Bool=>x.bind _) hr).trans ?_
  rw[if_neg hc]
  rfl
noncomputable abbrev Us{γ:Type}(s:AM)(f:Ap)(K:AM→Option γ):Option γ:=
 (Eh f).bind fun x=>(if s.length+x.length≤2*Be then some (s++x)else none).bind K
theorem Ih{γ:Type}{l:List Ap}{f:Ap}{K:AM→Option γ}(hf:RI f)(hl: ∀f∈l,RI f)(hn:l.length≤1000):Us (VQ l) f K=K (VQ (l++[f])):=Aa3 hf hl hn
theorem LY{l:List Ap}{f:Ap}(hl: ∀f∈l,RI f)(hf:RI f): ∀g∈l++[f],RI g:=by
 intro g hg
 rcases List.mem_append.1 hg with h|h
 ·exact hl g h
 ·rw[List.mem_singleton.1 h];exact hf
theorem Nl{l:List Ap}{f:Ap}{n:Nat}(h:l.length≤n):(l++[f]).length≤n+1:=by simpa using h
theorem vL{γ:Type}{c:B4}(h:MZ c.Port){K:AM→Option γ}:((Eh (fK 1 c.Private)).bind fun x6=>Us x6 (fN 2 (BQ c.Port)) fun x11=>Us x11 (fN 3 (BQ (c.Mark.toNat:Int))) K)=K (VQ (Jk c)):=by
 have ok:=cI h
 have o1:=ok (fK 1 c.Private) (by simp[Jk])
 have o2:=ok (fN 2 (BQ c.Port)) (by simp[Jk])
 have o3:=ok (fN 3 (BQ (c.Mark.toNat:Int))) (by simp[Jk])
 have a1: ∀g∈[fK 1 c.Private],RI g:=fun g hg=>by rw[List.mem_singleton.1 hg];exact o1
 rw[Sk o1,Option.bind_some,←aQ,Ih o2 a1 (by simp),Ih o3 (LY a1 o2) (by simp)]
 rfl
theorem vK{γ:Type}{p:Ba}(h:Pz p){l:List Ap}(hl: ∀f∈l,RI f)(hn:l.length≤500){K:AM→Option γ}:
  (Us (VQ l) (fK 5 p.Key) fun x30=>Us x30 (fK 8 p.Psk) fun x34=>Us x34 (fN 13 1) fun x37=>
   (if(!(HH Cu p.End (⟨Ak.z,0⟩:AF)))=true then Us x37 (fE p.End) fun x72=>some (.inl x72)else some (.inl x37):Option (AM⊕γ)).bind (Sum.elim (fun p41=>
    Us p41 (fN 14 p.Sent) fun x46=>Us x46 (fN 15 p.Got) fun x50=>Us x50 (fN 10 (BQ p.Keep)) K) some))=K (VQ (l++Jj p)):=by
 have ok:=VV h
 have o1:=ok (fK 5 p.Key) (by simp[C5,Jj,Oi])
 have o2:=ok (fK 8 p.Psk) (by simp[C5,Jj,Oi])
 have o3:=ok (fN 13 1) (by simp[C5,Jj,Oi])
 have o5:=ok (fN 14 p.Sent) (by simp[C5,Jj,Oi])
 have o6:=ok (fN 15 p.Got) (by simp[C5,Jj,Oi])
 have o7:=ok (fN 10 (BQ p.Keep)) (by simp[C5,Jj,Oi])
 have a1:=LY hl o1
 have a2:=LY a1 o2
 have a3:=LY a2 o3
 have n1:=Nl (f:=fK 5 p.Key) hn
 have n2:=Nl (f:=fK 8 p.Psk) n1
 have n3:=Nl (f:=fN 13 1) n2
 rw[Ih o1 hl (by omega),Ih o2 a1 (by omega),Ih o3 a2 (by omega)]
 have e3:l++[fK 5 p.Key]++[fK 8 p.Psk]++[fN 13 1]=l++[fK 5 p.Key,fK 8 p.Psk,fN 13 1]:=by simp
 have key: ∀m:List Ap,m=l++Oi p→(∀f∈m,RI f)→m.length≤504→(Us (VQ m) (fN 14 p.Sent) fun x46=>Us x46 (fN 15 p.Got) fun x50=>Us x50 (fN 10 (BQ p.Keep)) K)=K (VQ (l++Jj p)):=by
  intro m hm hok hlen
  have m1:=Nl (f:=fN 14 p.Sent) hlen
  have m2:=Nl (f:=fN 15 p.Got) m1
  rw[Ih o5 hok (by omega),Ih o6 (LY hok o5) (by omega),Ih o7 (LY (LY hok o5) o6) (by omega),hm]
  unfold Jj
  simp
 by_cases he:p.End=noE
 ·have hc:HH Cu p.End (⟨Ak.z,0⟩:AF)=true:=by rw[cmpE,decide_eq_true_eq];exact he
  rw[if_neg (by rw[hc];decide)]
  exact key _ (by unfold Oi;rw[if_pos he,e3];simp) a3 (by omega)
 ·have hc:HH Cu p.End (⟨Ak.z,0⟩:AF)=false:=by rw[cmpE,decide_eq_false_iff_not];exact he
  have o4:=ok (fE p.End) (by simp[C5,Jj,Oi,he])
  have n4:=Nl (f:=fE p.End) n3
  rw[if_pos (by rw[hc];decide),Ih o4 a3 (by omega)]
  exact key _ (by unfold Oi;rw[if_neg he,e3];simp) (LY a3 o4) (by omega)
theorem rO:cA 0=GC (Kw (QD 0))++[10,10]:=by decide+kernel
open Classical in
theorem vJ(c:B4)(hs:Rm c):Sl c=some (if I8 c then(Zn c,true)else([],false)):=by
 have hr:=rP c hs
 unfold Sl
 by_cases hc:I8 c
 ·rw[decide_eq_true hc]at hr
  have hf:=SI hc
  have hokc:=pH hc
  refine(congrArg (fun x:Option Bool=>x.bind _) hr).trans ?_
  refine(vL hc.1).trans ?_
  have hlen:(E5 c).length≤179:=by
   unfold E5 Jk
   simp only[List.length_append,List.length_cons,List.length_nil]
   omega
  have hfin:VQ (E5 c)++cA 0=Zn c:=by unfold Zn;rw[oV,aQ,rO];simp
  have hlt:=oU hokc
  have hr0:(cA 0).length≤100:=by decide
  have hend:((IG 0).bind fun x73=>(if(VQ (E5 c)).length+x73.length≤2*Be then some (VQ (E5 c)++x73)else none).bind fun x74=>some (x74,true))=some (Zn c,true):=by
   rw[show IG 0=some (cA 0)from r39_in (n:=0) (by omega),Option.bind_some,if_pos (by unfold Be;omega),hfin,Option.bind_some]
  rw[if_pos hc]
  refine Eq.trans (b:=(some (Sum.inl (VQ (E5 c))):Option (AM⊕(AM×Bool))).bind _) (congrArg (fun x:Option (AM⊕(AM×Bool))=>x.bind _) (Sx c.Peers.l.length (fun i=>(VQ (Jk c++(c.Peers.l.take i).flatMap C5),(i:Int))) (by simp) ?_ ?_)) hend
  ·intro i hi
   have hb:=Zo c.Peers.l i
   have hpm:=List.getElem_mem hi
   have hp:=Zz hpm
   have h64:=hc.2.2.2
   have h16:=hc.2.1
   have hoki: ∀f∈Jk c++(c.Peers.l.take i).flatMap C5,RI f:=by
    intro f hf
    rcases List.mem_append.1 hf with hf|hf
    ·exact cI hc.1 f hf
    ·exact pG (fun p hp=>hc.2.2.1.1 p (List.mem_of_mem_take hp)) f hf
   have hlni:(Jk c++(c.Peers.l.take i).flatMap C5).length≤179:=by
    unfold Jk
    simp only[List.length_append,List.length_cons,List.length_nil]
    omega
   have hph:=TZ c.Peers.l[i]
   have hpo:=hc.2.2.1.1 _ hpm
   dsimp only
   rw[if_pos (by simpa using hi),BD,List.getElem?_eq_getElem hi,Option.bind_some]
   refine(vK hpo hoki (by omega)).trans ?_
   refine Eq.trans (b:=(some (Sum.inl (VQ (Jk c++(c.Peers.l.take i).flatMap C5++C5 c.Peers.l[i]))):Option (AM⊕((AM×Int)⊕(AM⊕(AM×Bool))))).bind _) (congrArg (fun x:Option (AM⊕((AM×Int)⊕(AM⊕(AM×Bool))))=>x.bind _) (Sx c.Peers.l[i].Allowed.l.length (fun j=>(VQ (Jk c++(c.Peers.l.take i).flatMap C5++Jj c.Peers.l[i]++(c.Peers.l[i].Allowed.l.take j).map fP),(j:Int))) (by simp) ?_ ?_)) ?_
   ·intro j hj
    have hokj: ∀f∈Jk c++(c.Peers.l.take i).flatMap C5++Jj c.Peers.l[i]++(c.Peers.l[i].Allowed.l.take j).map fP,RI f:=by
     intro f hf
     rw[List.append_assoc]at hf
     rcases List.mem_append.1 hf with hf|hf
     ·exact hoki f hf
     ·refine VV hpo f ?_
      unfold C5
      rcases List.mem_append.1 hf with hf|hf
      ·exact List.mem_append_left _ hf
      ·refine List.mem_append_right _ ?_
       obtain⟨q,hq,rfl⟩:=List.mem_map.1 hf
       exact List.mem_map_of_mem (List.mem_of_mem_take hq)
    have okj:RI (fP (c.Peers.l[i].Allowed.l[j])):=VV hpo _ (by unfold C5;exact List.mem_append_right _ (List.mem_map_of_mem (List.getElem_mem hj)))
    dsimp only
    rw[if_pos (by simpa using hj),BD,List.getElem?_eq_getElem hj,Option.bind_some]
    refine(Ih okj hokj (by simp only[List.length_append,List.length_map,List.length_take]at hlni ⊢;omega)).trans ?_
    rw[List.append_assoc,←map_take fP _ hj,show(j:Int)+1=((j+1:Nat):Int) by omega,Bz (by omega)]
   ·dsimp only
    rw[if_neg (by simp),List.take_length,List.append_assoc]
    rfl
   ·dsimp only[Option.bind_some,Sum.elim_inl]
    rw[Xu _ _ hi,show(i:Int)+1=((i+1:Nat):Int) by omega,Bz (by omega),List.append_assoc]
  ·dsimp only
   rw[if_neg (by simp),List.take_length]
   rfl
 ·rw[decide_eq_false hc]at hr
  refine(congrArg (fun x:Option Bool=>x.bind _) hr).trans ?_
  rw[if_neg hc]
  rfl
theorem mL(c:B4): ∃b,PZ c=some b∧(b=false→Rm c):=by
 unfold PZ
 by_cases h:20<c.Peers.l.length
 ·exact⟨true,by rw[if_pos (by rw[decide_eq_true_eq];omega)],by simp⟩
 ·rw[if_neg (by rw[decide_eq_true_eq];omega)]
  obtain⟨r,e,hq⟩: ∃r:Unit⊕Bool,iter (fun s4:Int=>if(decide (s4<(c.Peers.l.length:Int)))=true then
    (Fo c.Peers.l s4).bind fun x10=>
    if(decide (80<(x10.Allowed.l.length:Int)))=true then
    (some true).map fun r=> .inr (.inr r)
    else
    some (.inl (IntKind.i64.wrap (s4+1)))
    else
    some (.inr (.inl ()))) 0=some r∧(r= .inr true∨(r= .inl ()∧Rm c)):=by
   refine Nr (fun s:Int=>c.Peers.l.length-s.toNat) (fun s:Int=> ∃n:Nat,s=n∧n≤c.Peers.l.length∧ ∀i (hi:i<n) (hl:i<c.Peers.l.length),c.Peers.l[i].Allowed.l.length≤80)
    (fun r:Unit⊕Bool=>r= .inr true∨(r= .inl ()∧Rm c)) ?_ ⟨0,rfl,by omega,fun i hi=>absurd hi (by omega)⟩
   rintro _ ⟨n,rfl,h1,h2⟩
   by_cases hn:n<c.Peers.l.length
   ·rw[if_pos (by simpa using hn),BD,List.getElem?_eq_getElem hn,Option.bind_some]
    by_cases h8:80<c.Peers.l[n].Allowed.l.length
    ·rw[if_pos (by rw[decide_eq_true_eq];omega)]
     exact .inr ⟨_,rfl, .inl rfl⟩
    ·rw[if_neg (by rw[decide_eq_true_eq];omega),show(n:Int)+1=((n+1:Nat):Int) by omega,Bz (by omega)]
     refine .inl ⟨_,rfl,⟨n+1,rfl,by omega,fun i hi hl=> ?_⟩,by omega⟩
     by_cases e:i<n
     ·exact h2 i e hl
     ·obtain rfl:i=n:=by omega
      omega
   ·rw[if_neg (by simpa using hn)]
    refine .inr ⟨_,rfl, .inr ⟨rfl,by omega,fun p hp=> ?_⟩⟩
    obtain⟨i,hi,rfl⟩:=List.mem_iff_getElem.1 hp
    exact h2 i (by omega) hi
  refine⟨Sum.elim (fun _=>false) (fun b=>b) r,(congrArg (fun x:Option (Unit⊕Bool)=>x.bind (Sum.elim (fun _=>some false) some)) e).trans (by cases r<;>rfl),?_⟩
  rcases hq with rfl|⟨rfl,hq⟩
  ·intro h;cases h
  ·exact fun _=>hq
theorem Sv(c:B4):KF c=some true:=by
 obtain⟨b,hb,hs⟩:=mL c
 unfold KF
 rw[hb,Option.bind_some]
 cases b with
 |true=>rw[if_pos rfl,MB];rfl
 |false=>
  have hs:=hs rfl
  rw[if_neg (by decide),jA c hs,vJ c hs]
  by_cases hc:I8 c
  ·rw[if_pos hc,if_pos hc]
   simp only[Option.bind_some,MB,decide_true,Dx,HZ,if_true]
  ·rw[if_neg hc,if_neg hc]
   simp only[Option.bind_some,MB,Dx,HZ,if_true]
   first|done|rfl
end Go.Proofs.YtobejhpigbllpaaGreatDoor.Am

