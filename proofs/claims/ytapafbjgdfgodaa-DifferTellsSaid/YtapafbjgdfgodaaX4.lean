/-
  Plain laws: both patches are the same; DifferTells.
  Plain laws: DifferTells.
  The law.
-/
import Derived.Test.YtapafbjgdfgodaaX3
namespace Go.Proofs.Ytapafbjgdfgodaa.Am
noncomputable def YO(a0 a1:AG):Option (Bool×(Ar UInt8 32)×Bool×Int×Bool×UInt32):=
 (let x23:= !(Dw (Ba 32 Bg.u8) a0.Private a1.Private)
 (if x23=true then
 some (.inl (true,a1.Private))
 else
 some (.inl (Ab.z.HasPrivate,Ab.z.Private)):Option ((Bool×(Ar UInt8 32))⊕_)).bind (Sum.elim (fun(p24:(Bool×(Ar UInt8 32)))=>
 (if(!decide (a0.Port=a1.Port))=true then
 some (.inl (true,a1.Port))
 else
 some (.inl (Ab.z.HasPort,Ab.z.Port)):Option ((Bool×Int)⊕_)).bind (Sum.elim (fun(p29:(Bool×Int))=>
 let x33:= !decide ((a0.Mark.toNat:Int)=(a1.Mark.toNat:Int))
 if x33=true then
 some (p24.1,p24.2,p29.1,p29.2,true,a1.Mark)
 else
 some (p24.1,p24.2,p29.1,p29.2,Ab.z.HasMark,Ab.z.Mark)) some)) some):Option (Bool×(Ar UInt8 32)×Bool×Int×Bool×UInt32))
def Zy(a b:AG):Bool×(Ar UInt8 32)×Bool×Int×Bool×UInt32:=
 (!decide (a.Private=b.Private),if(!decide (a.Private=b.Private))=true then b.Private else kZ,!decide (a.Port=b.Port),if(!decide (a.Port=b.Port))=true then b.Port else 0,
  !decide ((a.Mark.toNat:Int)=(b.Mark.toNat:Int)),if(!decide ((a.Mark.toNat:Int)=(b.Mark.toNat:Int)))=true then b.Mark else 0)
theorem Xy(a b:AG):YO a b=some (Zy a b):=by
 unfold YO Zy
 rw[MC]
 cases decide (a.Private=b.Private)<;>cases decide (a.Port=b.Port)<;>cases decide ((a.Mark.toNat:Int)=(b.Mark.toNat:Int))<;>rfl
theorem MQ{l:List Aj}{k:LS}{x:Aj}(h:H7 l k=some x):x∈l:=List.mem_of_find?_eq_some h
theorem KE(B:List Aj)(x:Aj):(Kj B x).length≤1:=by unfold Kj;split<;>simp
theorem KD(A:List Aj)(x:Aj):(IL A x).length≤1:=by
 unfold IL;split
 ·split<;>simp
 ·simp
theorem Qk(A:List Aj)(x:Aj):(Ns A x).length≤1:=by unfold Ns;split<;>simp
theorem Gt{α γ:Type}{f:α→List γ}(hf: ∀x,(f x).length≤1): ∀l:List α,(l.flatMap f).length≤l.length
 |[]=>Nat.le_refl _
 |x::l=>by
  have:=hf x;have:=Gt hf l
  rw[List.flatMap_cons,List.length_append,List.length_cons];omega
theorem Ki(A:List Aj): ∀B:List Aj,(B.filter fun p=>(H7 A p.Key).isSome).flatMap (IL A)=B.flatMap (IL A)
 |[]=>rfl
 |y::B=>by
  rw[List.filter_cons,List.flatMap_cons]
  cases h:H7 A y.Key with
  |none=>
   have:IL A y=[]:=by unfold IL;rw[h]
   rw[if_neg (by simp),this,Ki A B];rfl
  |some x=>rw[if_pos (by simp),List.flatMap_cons,Ki A B]
theorem F4{l:List Aj}(h:Good l):(l.map (·.Key)).Nodup:=(List.nodup_cons.1 h.2.1).2
def ZC:Av:=⟨Ab.z.HasPrivate,Ab.z.Private,Ab.z.HasPort,Ab.z.Port,Ab.z.HasMark,Ab.z.Mark,Ab.z.Replace, .nil⟩
open Classical in
noncomputable def GC(a b:AG):Av:=if Co a∧Co b then(if IA (IC a.Peers.l b.Peers.l) b.Peers.l=true then SA a b else Yh b)else ZC
theorem YS(A B:List Aj):(([]++A.flatMap (Kj B))++(B.filter fun p=>(H7 A p.Key).isSome).flatMap (IL A))++B.flatMap (Ns A)=Ib A B:=by
 rw[Ki];rfl
open Classical in
theorem Ij(a b:AG)(ha:EJ a)(hb:EJ b):DR a b=some (GC a b):=by
 have la:=ha.1
 have lb:=hb.1
 unfold DR GC
 rw[MX a ha,Option.bind_some,MX b hb]
 by_cases oa:Co a
 ·by_cases ob:Co b
  ·rw[if_pos (show Co a∧Co b from⟨oa,ob⟩),decide_eq_true oa,decide_eq_true ob]
   have na:Pq a:=F4 oa.2.2.1
   have nb:Pq b:=F4 ob.2.2.1
   show((E7 a b).bind _)=_
   rw[KX a b (by omega) (by omega) nb,Option.bind_some]
   cases IA (IC a.Peers.l b.Peers.l) b.Peers.l with
   |false=>
    show((Fc b).bind _)=_
    rw[PF b hb];rfl
   |true=>
    refine(show _=Option.bind (YO a b) _ from rfl).trans ?_
    rw[Xy,Option.bind_some]
    refine(congrArg (fun o:Option (List (LS×Aj))=>o.bind _) (LN a (by omega) na)).trans ?_
    refine(congrArg (fun o:Option (List (LS×Aj))=>o.bind _) (LN b (by omega) nb)).trans ?_
    refine(congrArg (fun o:Option ((GS Ak)⊕Av)=>o.bind _) (ET (L:=a.Peers.l) (Kj b.Peers.l) (KE _) [] 0 (Nat.le_refl _) ?_ ?_)).trans ?_
    ·intro i x m hx hm
     have hlt:=(List.getElem?_eq_some_iff.1 hx).1
     dsimp only
     rw[if_pos (by rw[decide_eq_true_eq];omega),BG,hx,Option.bind_some,Jy,show(i:Int)+1=((i+1:Nat):Int) by omega,CL (by omega)]
     unfold Kj
     cases (H7 b.Peers.l x.Key).isSome with
     |true=>rw[if_neg (by decide),if_pos rfl,List.append_nil]
     |false=>
      rw[if_pos (by decide),if_neg (by decide)]
      exact(congrArg (fun o:Option (GS Ak)=>o.bind _) (Mp (x:=Q8 x) (by unfold GH;omega))).trans rfl
    ·intro g
     dsimp only
     rw[if_neg (by rw[decide_eq_true_eq];omega)]
    obtain⟨g,h1,h2⟩:=Nh b a.Peers.l (by omega)
    have hgl:g.l.length≤20:=by rw[h2];exact Nat.le_trans (List.length_filter_le _ _) lb
    have hr:=Gt (KE b.Peers.l) a.Peers.l
    refine(congrArg (fun o:Option (GS Aj)=>o.bind _) h1).trans ?_
    refine(congrArg (fun o:Option ((GS Ak)⊕Av)=>o.bind _) (ET (L:=g.l) (IL a.Peers.l) (KD _) ([]++a.Peers.l.flatMap (Kj b.Peers.l)) 20 (by simp only[List.nil_append];omega) ?_ ?_)).trans ?_
    ·intro i y m hy hm
     have hlt:=(List.getElem?_eq_some_iff.1 hy).1
     have hmem:=List.mem_of_getElem? hy
     rw[h2,List.mem_filter]at hmem
     obtain⟨x,hx⟩:=Option.isSome_iff_exists.1 hmem.2
     have hxa:=ha.2 x (MQ hx)
     dsimp only
     rw[if_pos (by rw[decide_eq_true_eq];omega),BG,hy,Option.bind_some,Jy,hx,show(i:Int)+1=((i+1:Nat):Int) by omega,CL (by omega)]
     unfold IL
     rw[hx]
     show((BV x.Allowed y.Allowed).bind _)=_
     rw[Kc _ _ (by omega),Option.bind_some]
     by_cases he:x.Allowed.l=y.Allowed.l
     ·rw[decide_eq_true he]
      dsimp only
      rw[if_neg (by decide),if_pos he,List.append_nil]
     ·rw[decide_eq_false he]
      dsimp only
      rw[if_pos (by decide),if_neg he]
      exact(congrArg (fun o:Option (GS Ak)=>o.bind _) (Mp (x:=Ti y) (by unfold GH;omega))).trans rfl
    ·intro g
     dsimp only
     rw[if_neg (by rw[decide_eq_true_eq];omega)]
    have hr2:=Gt (KD a.Peers.l) g.l
    refine(congrArg (fun o:Option ((GS Ak)⊕Av)=>o.bind _) (ET (L:=b.Peers.l) (Ns a.Peers.l) (Qk _) (([]++a.Peers.l.flatMap (Kj b.Peers.l))++g.l.flatMap (IL a.Peers.l)) 40 (by rw[List.length_append];simp only[List.nil_append];omega) ?_ ?_)).trans ?_
    ·intro i y m hy hm
     have hlt:=(List.getElem?_eq_some_iff.1 hy).1
     have hyb:=hb.2 y (List.mem_of_getElem? hy)
     have hx:((H7 a.Peers.l y.Key).getD zP).Allowed.l.length≤80:=by
      cases h:H7 a.Peers.l y.Key with
      |none=>exact Nat.zero_le _
      |some x=>exact ha.2 x (MQ h)
     dsimp only
     rw[if_pos (by rw[decide_eq_true_eq];omega),BG,hy,Option.bind_some,Jy,show(i:Int)+1=((i+1:Nat):Int) by omega,CL (by omega)]
     refine(congrArg (fun o:Option (Ak×Bool)=>o.bind _) (Tj ((H7 a.Peers.l y.Key).getD zP) y (!(H7 a.Peers.l y.Key).isSome) (by omega) (by omega))).trans ?_
     unfold Ns
     generalize chg ((H7 a.Peers.l y.Key).getD zP) y (!(H7 a.Peers.l y.Key).isSome)=c
     obtain⟨c1,c2⟩:=c
     cases c2 with
     |false=>
      show some (Sum.inl (((i+1:Nat):Int),JW m))=some (Sum.inl (((i+1:Nat):Int),JW (m++[])))
      rw[List.append_nil]
     |true=>exact(congrArg (fun o:Option (GS Ak)=>o.bind _) (Mp (x:=c1) (by unfold GH;omega))).trans rfl
    ·intro g
     dsimp only
     rw[if_neg (by rw[decide_eq_true_eq];omega)]
    rw[h2,YS]
    rfl
  ·rw[if_neg (show¬(Co a∧Co b)from fun h=>ob h.2),decide_eq_true oa,decide_eq_false ob];rfl
 ·rw[if_neg (show¬(Co a∧Co b)from fun h=>oa h.1),decide_eq_false oa];rfl
theorem YG{α R:Type}{c:Bool}{v w:α}{K:α→Option R}:(if c=true then some (.inl v)else some (.inl w):Option (α⊕R)).bind (Sum.elim K some)=K (if c=true then v else w):=by
 cases c<;>rfl
theorem Wr{l:List Aj}{k:LS}:decide (X6 l k<0)= !(H7 l k).isSome:=by
 rcases Jm l k with ⟨e1,e2⟩|⟨j,y,e1,e2,e3,_⟩
 ·rw[Ok e1,e2];rfl
 ·rw[Lm e1,e3]
  have: ¬((j:Int)<0):=by omega
  exact decide_eq_false this
theorem Wq{l:List Aj}{k:LS}:decide ((0:Int)≤X6 l k)=(H7 l k).isSome:=by
 rcases Jm l k with ⟨e1,e2⟩|⟨j,y,e1,e2,e3,_⟩
 ·rw[Ok e1,e2];rfl
 ·rw[Lm e1,e3]
  have:(0:Int)≤(j:Int):=by omega
  exact decide_eq_true this
theorem Ws{l:List Aj}{k:LS}{x:Aj}(h:H7 l k=some x):Gg l (X6 l k)=some x:=by
 rcases Jm l k with ⟨e1,e2⟩|⟨j,y,e1,e2,e3,_⟩
 ·rw[e2]at h;cases h
 ·rw[e3]at h;cases h
  rw[Lm e1,BG,e2]
open Classical in
theorem Uh(a b:AG)(ha:EJ a)(hb:EJ b):Jr a b=some (GC a b):=by
 have la:=ha.1
 have lb:=hb.1
 unfold Jr GC
 rw[Jt a ha,Option.bind_some,Jt b hb]
 by_cases oa:Co a
 ·by_cases ob:Co b
  ·rw[if_pos (show Co a∧Co b from⟨oa,ob⟩),decide_eq_true oa,decide_eq_true ob]
   have na:Pq a:=F4 oa.2.2.1
   have nb:Pq b:=F4 ob.2.2.1
   show((G0 a b).bind _)=_
   rw[Pc a b (by omega) (by omega) nb,Option.bind_some]
   cases IA (IC a.Peers.l b.Peers.l) b.Peers.l with
   |false=>
    show((FO b).bind _)=_
    rw[QW b hb];rfl
   |true=>
    rw[if_neg (by decide),if_pos rfl,MC]
    refine YG.trans ?_
    refine YG.trans ?_
    refine YG.trans ?_
    refine(congrArg (fun o:Option ((GS Ak)⊕Av)=>o.bind _) (ET (L:=a.Peers.l) (Kj b.Peers.l) (KE _) [] 0 (Nat.le_refl _) ?_ ?_)).trans ?_
    ·intro i x m hx hm
     have hlt:=(List.getElem?_eq_some_iff.1 hx).1
     dsimp only
     rw[if_pos (by rw[decide_eq_true_eq];omega),BG,hx,Option.bind_some,Nq b _ (by omega),Option.bind_some,Wr,show(i:Int)+1=((i+1:Nat):Int) by omega,CL (by omega)]
     unfold Kj
     cases (H7 b.Peers.l x.Key).isSome with
     |true=>rw[if_neg (by decide),if_pos rfl,List.append_nil]
     |false=>
      rw[if_pos (by decide),if_neg (by decide),Option.bind_some]
      exact(congrArg (fun o:Option (GS Ak)=>o.bind _) (Mp (x:=Q8 x) (by unfold GH;omega))).trans rfl
    ·intro g
     dsimp only
     rw[if_neg (by rw[decide_eq_true_eq];omega)]
    have hr:=Gt (KE b.Peers.l) a.Peers.l
    refine(congrArg (fun o:Option ((GS Ak)⊕Av)=>o.bind _) (ET (L:=b.Peers.l) (IL a.Peers.l) (KD _) ([]++a.Peers.l.flatMap (Kj b.Peers.l)) 20 (by simp only[List.nil_append];omega) ?_ ?_)).trans ?_
    ·intro i y m hy hm
     have hlt:=(List.getElem?_eq_some_iff.1 hy).1
     dsimp only
     rw[if_pos (by rw[decide_eq_true_eq];omega),BG,hy,Option.bind_some,Nq a _ (by omega),Option.bind_some,Wq,show(i:Int)+1=((i+1:Nat):Int) by omega,CL (by omega)]
     unfold IL
     cases hx:H7 a.Peers.l y.Key with
     |none=>
      show _=some (Sum.inl (_,JW (m++[])))
      rw[List.append_nil];rfl
     |some x=>
      have hxa:=ha.2 x (MQ hx)
      rw[Ws hx,Option.bind_some,Option.bind_some]
      show((BS true ((GB x.Allowed y.Allowed).bind _)).bind _)=_
      rw[PZ _ _ (by omega)]
      by_cases he:x.Allowed.l=y.Allowed.l
      ·rw[decide_eq_true he]
       dsimp only
       rw[if_pos he,List.append_nil];rfl
      ·rw[decide_eq_false he]
       dsimp only
       rw[if_neg he]
       exact(congrArg (fun o:Option (GS Ak)=>o.bind _) (Mp (x:=Ti y) (by unfold GH;omega))).trans rfl
    ·intro g
     dsimp only
     rw[if_neg (by rw[decide_eq_true_eq];omega)]
    have hr2:=Gt (KD a.Peers.l) b.Peers.l
    refine(congrArg (fun o:Option ((GS Ak)⊕Av)=>o.bind _) (ET (L:=b.Peers.l) (Ns a.Peers.l) (Qk _) (([]++a.Peers.l.flatMap (Kj b.Peers.l))++b.Peers.l.flatMap (IL a.Peers.l)) 40 (by rw[List.length_append];simp only[List.nil_append];omega) ?_ ?_)).trans ?_
    ·intro i y m hy hm
     have hlt:=(List.getElem?_eq_some_iff.1 hy).1
     dsimp only
     rw[if_pos (by rw[decide_eq_true_eq];omega),BG,hy,Option.bind_some,Nq a _ (by omega),Option.bind_some,Wr,Wq,show(i:Int)+1=((i+1:Nat):Int) by omega,CL (by omega)]
     unfold Ns
     have key: ∀(x:Aj) (fresh:Bool),x.Allowed.l.length≤80→ ∀(K:Ak→Bool→Option ((Int×(GS Ak))⊕((GS Ak)⊕Av))),
       ((Ek fresh (some (!(Dw (Ba 32 Bg.u8) x.Psk y.Psk)))).bind fun x114=>
       (if x114=true then
       let x158:Ak:={{(⟨y.Key,false,!fresh,false,kZ,false,Az.z,false,0,false, .nil⟩:Ak)with HasPsk:=true}with Psk:=y.Psk}
       some (.inl x158)
       else
       some (.inl (⟨y.Key,false,!fresh,false,kZ,false,Az.z,false,0,false, .nil⟩:Ak)):Option (Ak⊕_)).bind (Sum.elim (fun(p115:Ak)=>
       (if(!(Dw Bh x.End y.End))=true then
       let x155:Ak:={{p115 with HasEnd:=true}with End:=y.End}
       some (.inl x155)
       else
       some (.inl p115):Option (Ak⊕_)).bind (Sum.elim (fun(p120:Ak)=>
       (Ek fresh (some (!decide (x.Keep=y.Keep)))).bind fun x126=>
       (if x126=true then
       let x152:Ak:={{p120 with HasKeep:=true}with Keep:=y.Keep}
       some (.inl x152)
       else
       some (.inl p120):Option (Ak⊕_)).bind (Sum.elim (fun(p127:Ak)=>
       (GB x.Allowed y.Allowed).bind fun x131=>
       (if(!x131)=true then
       some (.inl ({p127 with Allowed:=y.Allowed}))
       else
       some (.inl p127):Option (Ak⊕_)).bind (Sum.elim (fun(p133:Ak)=>
       (Ek fresh (some p133.HasPsk)).bind fun x137=>
       (Ek x137 (some p133.HasEnd)).bind fun x139=>
       (Ek x139 (some p133.HasKeep)).bind fun x141=>
       (Ek x141 (some (!x131))).bind fun x142=>K p133 x142) some)) some)) some)) some))=K (chg x y fresh).1 (chg x y fresh).2:=by
      intro x fresh hx K
      unfold chg
      rw[MC,Sd,PZ _ _ (by omega)]
      cases fresh<;>cases decide (x.Psk=y.Psk)<;>cases decide (x.End=y.End)<;>cases decide (x.Keep=y.Keep)<;>cases decide (x.Allowed.l=y.Allowed.l)<;>rfl
     have fin: ∀(c:Ak×Bool),(if c.2=true then(MS 152 (JW m) [c.1]).bind fun x145=>some (.inl (((i+1:Nat):Int),x145))else some (.inl (((i+1:Nat):Int),JW m)):Option ((Int×(GS Ak))⊕((GS Ak)⊕Av)))=some (.inl (((i+1:Nat):Int),JW (m++if c.2=true then [c.1]else []))):=by
      intro c
      obtain⟨c1,c2⟩:=c
      cases c2 with
      |false=>
       show some (Sum.inl (((i+1:Nat):Int),JW m))=some (Sum.inl (((i+1:Nat):Int),JW (m++[])))
       rw[List.append_nil]
      |true=>exact(congrArg (fun o:Option (GS Ak)=>o.bind _) (Mp (x:=c1) (by unfold GH;omega))).trans rfl
     cases hx:H7 a.Peers.l y.Key with
     |none=>exact(key ⟨y.Key,kZ,Az.z,0,0,0, .nil⟩ true (Nat.zero_le _) _).trans (fin _)
     |some x=>
      rw[Ws hx]
      exact(key x false (ha.2 x (MQ hx)) _).trans (fin _)
    ·intro g
     dsimp only
     rw[if_neg (by rw[decide_eq_true_eq];omega)]
    show some _=some _
    unfold SA Ib
    cases decide (a.Private=b.Private)<;>cases decide (a.Port=b.Port)<;>cases decide ((a.Mark.toNat:Int)=(b.Mark.toNat:Int))<;>rfl
  ·rw[if_neg (show¬(Co a∧Co b)from fun h=>ob h.2),decide_eq_true oa,decide_eq_false ob];rfl
 ·rw[if_neg (show¬(Co a∧Co b)from fun h=>oa h.1),decide_eq_false oa];rfl
end Go.Proofs.Ytapafbjgdfgodaa.Am
namespace Go.Proofs.Ytapafbjgdfgodaa.Am
theorem Md(c:AG): ∃b,HB c=some b∧(b=false→EJ c):=by
 unfold HB
 by_cases h:20<c.Peers.l.length
 ·exact⟨true,by rw[if_pos (by rw[decide_eq_true_eq];omega)],by simp⟩
 ·rw[if_neg (by rw[decide_eq_true_eq];omega)]
  obtain⟨r,e,hq⟩: ∃r:Unit⊕Bool,iter (fun s4:Int=>if(decide (s4<(c.Peers.l.length:Int)))=true then
    (Gg c.Peers.l s4).bind fun x10=>
    if(decide (80<(x10.Allowed.l.length:Int)))=true then
    (some true).map fun r=> .inr (.inr r)
    else
    some (.inl (IntKind.i64.wrap (s4+1)))
    else
    some (.inr (.inl ()))) 0=some r∧(r= .inr true∨(r= .inl ()∧EJ c)):=by
   refine N8 (fun s:Int=>c.Peers.l.length-s.toNat) (fun s:Int=> ∃n:Nat,s=n∧n≤c.Peers.l.length∧ ∀i (hi:i<n) (hl:i<c.Peers.l.length),c.Peers.l[i].Allowed.l.length≤80)
    (fun r:Unit⊕Bool=>r= .inr true∨(r= .inl ()∧EJ c)) ?_ ⟨0,rfl,by omega,fun i hi=>absurd hi (by omega)⟩
   rintro _ ⟨n,rfl,h1,h2⟩
   by_cases hn:n<c.Peers.l.length
   ·rw[if_pos (by simpa using hn),BG,List.getElem?_eq_getElem hn,Option.bind_some]
    by_cases h8:80<c.Peers.l[n].Allowed.l.length
    ·rw[if_pos (by rw[decide_eq_true_eq];omega)]
     exact .inr ⟨_,rfl, .inl rfl⟩
    ·rw[if_neg (by rw[decide_eq_true_eq];omega),show(n:Int)+1=((n+1:Nat):Int) by omega,CL (by omega)]
     refine .inl ⟨_,rfl,⟨n+1,rfl,by omega,fun i hi hl=> ?_⟩,by omega⟩
     by_cases e:i<n
     ·exact h2 i e hl
     ·obtain rfl:i=n:=by omega
      omega
   ·rw[if_neg (by simpa using hn)]
    refine .inr ⟨_,rfl, .inr ⟨rfl,by omega,fun p hp=> ?_⟩⟩
    obtain⟨i,hi,rfl⟩:=List.mem_iff_getElem.1 hp
    exact h2 i (by omega) hi
  refine⟨Sum.elim (fun _=>false) (fun b=>b) r,(congrArg (fun x:Option (Unit⊕Bool)=>x.bind (Sum.elim (fun _=>some false) some)) e).trans (by cases r<;>rfl),?_⟩
  rcases hq with rfl|⟨rfl,hq⟩
  ·intro h;cases h
  ·exact fun _=>hq
def UW(r:Av):Prop:=r.Peers.l.length≤100∧ ∀p∈r.Peers.l,p.Allowed.l.length≤80
theorem Ue(x:Ak)(h:x.Allowed.l.length≤80):Fe x x=some true:=by
 unfold Fe
 rw[MC,MC,Sd,PZ _ _ (by omega),decide_eq_true rfl,decide_eq_true rfl,decide_eq_true rfl,decide_eq_true rfl,decide_eq_true rfl,decide_eq_true rfl,decide_eq_true rfl,decide_eq_true rfl,decide_eq_true rfl,decide_eq_true rfl,decide_eq_true rfl]
 rfl
theorem Vb(r:Av)(h:UW r):KG r r=some true:=by
 obtain⟨h1,h2⟩:=h
 unfold KG
 rw[MC,decide_eq_true rfl,decide_eq_true rfl,decide_eq_true rfl,decide_eq_true rfl,decide_eq_true rfl,decide_eq_true rfl,decide_eq_true rfl,decide_eq_true rfl]
 show((iter _ 0).bind _)=_
 refine(congrArg (fun o:Option (Unit⊕Bool)=>o.bind _) (show iter _ ((0:Nat):Int)=some (.inl ())from ?_)).trans rfl
 have key: ∀(l:List Ak) (i:Nat),r.Peers.l.drop i=l→i≤r.Peers.l.length→iter (fun(s34:Int)=>
   if(decide (s34<(r.Peers.l.length:Int)))=true then
   (Gg r.Peers.l s34).bind fun x40=>
   (Gg r.Peers.l s34).bind fun x43=>
   (Fe x40 x43).bind fun x45=>
   if(!x45)=true then
   (some false).map fun r=> .inr (.inr r)
   else
   some (.inl (IntKind.i64.wrap (s34+1)))
   else
   some (.inr (.inl ()))) (i:Int)=some (.inl ():Unit⊕Bool):=by
  intro l
  induction l with
  |nil=>
   intro i h hi
   obtain rfl:=drop_nil h hi
   exact CY (by rw[if_neg (by rw[decide_eq_true_eq];omega)])
  |cons x l ih=>
   intro i h hi
   obtain⟨e1,e2,e3⟩:=drop_cons h
   rw[DY (s':=((i+1:Nat):Int)) (by
    rw[if_pos (by rw[decide_eq_true_eq];omega),BG,e2,Option.bind_some,Option.bind_some,Ue x (h2 x (List.mem_of_getElem? e2)),Option.bind_some,if_neg (by decide),show(i:Int)+1=((i+1:Nat):Int) by omega,CL (by omega)])]
   exact ih (i+1) e3 (by omega)
 exact key r.Peers.l 0 rfl (Nat.zero_le _)
def Zx(r:Av):Bool:= !r.HasPrivate&&(!r.HasPort&&(!r.HasMark&&(!r.Replace&&decide ((r.Peers.l.length:Int)=0))))
theorem LI(r:Av):Dn r=some (Zx r)∧Js r=some (Zx r):=by
 unfold Dn Js Zx
 constructor<;>cases r.HasPrivate<;>cases r.HasPort<;>cases r.HasMark<;>cases r.Replace<;>cases decide ((r.Peers.l.length:Int)=0)<;>rfl
theorem MN{α γ:Type}{f:α→List γ}{l:List α}{c:γ}(h:c∈l.flatMap f): ∃x∈l,c∈f x:=List.mem_flatMap.1 h
theorem QY(a b:AG)(ha:EJ a)(hb:EJ b):UW (GC a b):=by
 have la:=ha.1
 have lb:=hb.1
 unfold GC
 split
 ·split
  ·refine⟨?_,?_⟩
   ·show(JW (Ib a.Peers.l b.Peers.l)).l.length≤100
    have h1:=Gt (KE b.Peers.l) a.Peers.l
    have h2:=Gt (KD a.Peers.l) b.Peers.l
    have h3:=Gt (Qk a.Peers.l) b.Peers.l
    rw[KR]
    unfold Ib
    rw[List.length_append,List.length_append];omega
   ·show∀p∈(JW (Ib a.Peers.l b.Peers.l)).l,_
    rw[KR]
    unfold Ib
    intro p hp
    rcases List.mem_append.1 hp with hp|hp
    ·rcases List.mem_append.1 hp with hp|hp
     ·obtain⟨x,_,hx⟩:=MN hp
      unfold Kj at hx
      split at hx
      ·cases hx
      ·rw[List.mem_singleton]at hx;subst hx;exact Nat.zero_le _
     ·obtain⟨x,_,hx⟩:=MN hp
      unfold IL at hx
      split at hx
      ·split at hx
       ·cases hx
       ·rw[List.mem_singleton]at hx;subst hx;exact Nat.zero_le _
      ·cases hx
    ·obtain⟨y,hy,hx⟩:=MN hp
     unfold Ns at hx
     split at hx
     ·rw[List.mem_singleton]at hx
      subst hx
      unfold chg
      dsimp only
      split
      ·exact hb.2 y hy
      ·exact Nat.zero_le _
     ·cases hx
  ·refine⟨?_,?_⟩
   ·show(JW (b.Peers.l.flatMap fun x=>[QV x])).l.length≤100
    rw[KR]
    have:=Gt (f:=fun x=>[QV x]) (fun _=>Nat.le_refl _) b.Peers.l
    omega
   ·show∀p∈(JW (b.Peers.l.flatMap fun x=>[QV x])).l,_
    rw[KR]
    intro p hp
    obtain⟨x,hx,he⟩:=MN hp
    rw[List.mem_singleton]at he;subst he
    exact hb.2 x hx
 ·exact⟨Nat.zero_le _,fun p hp=>by cases hp⟩
theorem KT{l:List Aj}(hn:(l.map (·.Key)).Nodup){y:Aj}(hy:y∈l):H7 l y.Key=some y:=by
 obtain⟨i,hi,rfl⟩:=List.mem_iff_getElem.1 hy
 rcases Jm l l[i].Key with ⟨_,e2⟩|⟨j,z,_,e2,e3,e4⟩
 ·unfold H7 at e2
  rw[List.find?_eq_none]at e2
  exact absurd (decide_eq_true rfl) (e2 l[i] (List.getElem_mem hi))
 ·have hij:=Rh hn (List.getElem?_eq_getElem hi) e2 e4.symm
  subst hij
  rw[e3]
  rw[List.getElem?_eq_getElem hi]at e2
  exact e2.symm
theorem Pr: ∀l:List Aj,IA l l=true
 |[]=>rfl
 |x::l=>by
  rw[LF,Pr l,decide_eq_true rfl]
  cases decide (x.End=Lu)<;>rfl
theorem KU{α γ:Type}{f:α→List γ}: ∀{l:List α},(∀x∈l,f x=[])→l.flatMap f=[]
 |[],_=>rfl
 |x::l,h=>by rw[List.flatMap_cons,h x List.mem_cons_self,KU fun y hy=>h y (List.mem_cons_of_mem _ hy)];rfl
theorem S9(a:AG)(h:Co a):Zx (GC a a)=true:=by
 have hn:=F4 h.2.2.1
 unfold GC
 rw[if_pos ⟨h,h⟩]
 have hb:IC a.Peers.l a.Peers.l=a.Peers.l:=by
  unfold IC
  rw[List.filter_eq_self]
  intro p hp
  rw[KT hn hp];rfl
 rw[hb,Pr,if_pos rfl]
 have hp:Ib a.Peers.l a.Peers.l=[]:=by
  unfold Ib
  rw[KU (f:=Kj a.Peers.l) (fun x hx=>by unfold Kj;rw[KT hn hx];rfl),KU (f:=IL a.Peers.l) (fun x hx=>by unfold IL;rw[KT hn hx];exact if_pos rfl),KU (f:=Ns a.Peers.l) (fun x hx=>by
   unfold Ns
   rw[KT hn hx]
   refine if_neg ?_
   show¬(chg x x false).2=true
   unfold chg
   dsimp only
   rw[decide_eq_true rfl,decide_eq_true rfl,decide_eq_true rfl,decide_eq_true rfl]
   decide)]
  rfl
 unfold Zx SA
 rw[hp]
 dsimp only
 rw[decide_eq_true rfl,decide_eq_true rfl,decide_eq_true rfl]
 rfl
def Xh:LS:=⟨[(1:UInt8),0,0,0,0,0,0,0,0,0,0,0,0,0,0,0,0,0,0,0,0,0,0,0,0,0,0,0,0,0,0,0],rfl⟩
def Xg:Aj:=⟨Xh,(A1 32 T.u8).z,Az.z,0,0,0, .nil⟩
def Xi:AG:=⟨(A1 32 T.u8).z,0,0, .mk [Xg]⟩
def Xp:AG:=⟨(A1 32 T.u8).z,0,0, .nil⟩
theorem Yi:Co Xi:=by
 refine⟨⟨by decide,by decide⟩,by decide,⟨fun p hp=> ?_,?_,?_⟩,by decide⟩
 ·have hp:p∈[Xg]:=hp
  rw[List.mem_singleton]at hp
  subst hp
  exact⟨⟨by decide,by decide⟩, .inl rfl,fun i hi=>absurd hi (Nat.not_lt_zero _)⟩
 ·show [OU,Xh].Nodup
  decide
 ·exact List.nodup_nil
theorem YD:Co Xp:=by
 refine⟨⟨by decide,by decide⟩,by decide,⟨fun p hp=> ?_,?_,?_⟩,by decide⟩
 ·cases hp
 ·show [OU].Nodup
  decide
 ·exact List.nodup_nil
theorem Uo:EJ Xi:=⟨by decide,fun p hp=>by
 have hp:p∈[Xg]:=hp
 rw[List.mem_singleton]at hp
 subst hp
 exact Nat.zero_le _⟩
theorem Us:EJ Xp:=⟨by decide,fun p hp=>by cases hp⟩
theorem Up:GC Xi Xp=⟨false,kZ,false,0,false,0,false, .mk [Q8 Xg]⟩:=by
 unfold GC
 rw[if_pos ⟨Yi,YD⟩]
 rfl
theorem QC:HH ()=some true:=by
 have h:=Ij Xi Xp Uo Us
 rw[Up]at h
 unfold HH
 refine(congrArg (fun o:Option Av=>o.bind _) h).trans ?_
 refine(show _=((BS true ((some (Dw (Ba 32 Bg.u8) Xh Xh)))).bind fun x23=>(BS x23 (some true)).bind fun x26=>(BS x26 (some true)).bind fun x30=>some x30)from rfl).trans ?_
 rw[MC,decide_eq_true rfl];rfl
open Classical in
theorem KJ(a b:AG):FV a b=some true:=by
 obtain⟨x,hx,sx⟩:=Md a
 obtain⟨y,hy,sy⟩:=Md b
 unfold FV
 rw[hx,hy,Option.bind_some]
 cases x with
 |true=>rw[QC];rfl
 |false=>
  cases y with
  |true=>rw[QC];rfl
  |false=>
   have sa:=sx rfl
   have sb:=sy rfl
   show((DR a b).bind _)=_
   rw[Ij a b sa sb,Uh a b sa sb,Option.bind_some,Option.bind_some,Vb _ (QY a b sa sb),Option.bind_some,(LI _).1,(LI _).2,Option.bind_some,Option.bind_some,decide_eq_true rfl,Jt a sa,Jt b sb,QC]
   by_cases oa:Co a
   ·by_cases ob:Co b
    ·rw[decide_eq_true oa,decide_eq_true ob,KX a b (by have:=sa.1;omega) (by have:=sb.1;omega) (F4 ob.2.2.1),Pc a b (by have:=sa.1;omega) (by have:=sb.1;omega) (F4 ob.2.2.1),Ij a a sa sa]
     show(((BS (decide (IA (IC a.Peers.l b.Peers.l) b.Peers.l=IA (IC a.Peers.l b.Peers.l) b.Peers.l)) ((Dn (GC a a)).bind fun x41=>some x41)).bind _).bind _)=_
     rw[(LI _).1,S9 a oa,decide_eq_true rfl];rfl
    ·rw[decide_eq_true oa,decide_eq_false ob];rfl
   ·rw[decide_eq_false oa];rfl
end Go.Proofs.Ytapafbjgdfgodaa.Am

