/-
  Plain laws: the references' readers: sixteen bytes, addresses.
-/
import Derived.Test.YtobejhpigbllpaaGreatDoorX6
set_option linter.unusedVariables false
set_option linter.unusedSimpArgs false
namespace Go.Proofs.YtobejhpigbllpaaGreatDoor.Am
open GS renaming l→l6
open Int renaming ofNat_tdiv→iw, tdiv→gc, tmod→gj
open Int.ofNat renaming inj→ia
open IntKind renaming i64→qm, wrap→ql
open List renaming append_assoc→dl, append_nil→dv, countP_le_length→eu, countP_pos_iff→om, drop_drop→ck, drop_eq_getElem_cons→bk, drop_left→n6, drop_of_length_le→ce, drop_zero→db, exists_cons_of_ne_nil→cn, flatMap_cons→eh, flatMap_nil→mw, getD_eq_getElem?_getD→kc, getElem?_eq_getElem→ad, getElem?_eq_some_iff→ca, getElem?_map→ff, length→f8, length_append→aw, length_cons→bb, length_drop→bh, length_nil→bz, length_pos_iff→lr, length_replicate→k8, length_singleton→gv, length_take→a6, map_append→de, map_cons→bn, mem_append→go, mem_cons→bu, mem_nil_iff→jm, mem_of_getElem?→cq, mem_singleton→gf, replicate→aq, sum_cons→ot, take_length→kj, take_succ_eq_append_getElem→bd
open Nat renaming pow_le_pow_right→kb, zero_le→ib
open Option renaming bind_eq_some_iff→ab, bind_some→aa, map_eq_some_iff→aj, map_some→an
open Sum renaming elim→a8
open T renaming arr→ak, u8→a7
open UInt64 renaming ofNat→ei
open UInt8 renaming ofNat→bc, toNat_inj→ef, toNat_ofNat'→fk
section
theorem Um(k:Nat):HL (k:Int)=bc k:=by
 unfold HL
 apply ef.1
 rw[show((k:Int)%256).toNat=k%256 by omega,fk,fk];omega
theorem rdG_lt{s:AG}{n:Nat}(h:YS s=some n):n<65536:=by
 unfold YS at h
 split at h
 ·rename_i hl
  have h1:=uR s 0 n h
  have h2:16^s.length≤16^4:=kb (by decide) hl.2
  have h3:(16:Nat)^4=65536:=by decide
  omega
 ·cases h
theorem vG(x y:UInt8):256*x.toNat+y.toNat<65536:=by
 have:=x.toNat_lt
 have:=y.toNat_lt
 omega
theorem vS(last:Bool): ∀{P:List AG} {m:List Nat},DM last P=some m→ ∀n∈m,n<65536
 |[],m,h,n,hn=>by cases h;cases hn
 |x::r,m,h,n,hn=>by
  rw[DM]at h
  cases hx:YS x with
  |some k=>
   rw[hx]at h
   obtain⟨l,hl,rfl⟩:=aj.1 h
   rcases bu.1 hn with rfl|hn
   ·exact rdG_lt hx
   ·exact vS last hl n hn
  |none=>
   rw[hx]at h
   dsimp only at h
   split at h
   ·cases h
    rcases bu.1 hn with rfl|hn
    ·exact vG _ _
    ·rw[gf.1 hn];exact vG _ _
   ·cases h
theorem Zl{last:Bool}{s:AG}{m:List Nat}(h:JD last s=some m): ∀n∈m,n<65536:=by
 unfold JD at h
 split at h
 ·cases h;intro n hn;cases hn
 ·exact vS last h
theorem nP(last:Bool): ∀{P:List AG} {m:List Nat},DM last P=some m→m.length≤P.length+1
 |[],m,h=>by cases h;simp
 |x::r,m,h=>by
  rw[DM]at h
  cases hx:YS x with
  |some k=>
   rw[hx]at h
   obtain⟨l,hl,rfl⟩:=aj.1 h
   have:=nP last hl
   simp;omega
  |none=>
   rw[hx]at h
   dsimp only at h
   split at h
   ·cases h;simp
   ·cases h
theorem eT{last:Bool}{s:AG}{m:List Nat}(h:JD last s=some m):m.length≤s.length+2:=by
 unfold JD at h
 split at h
 ·cases h;simp
 ·have h1:=nP last h
  have h2:=ET (c:=58) s
  have h3:=eu (p:=fun x=>x==(58:UInt8)) (l:=s)
  omega
theorem fE{L:List Nat}(hL:L.length=8){β:Type}{F:Int×(Ar UInt8 16)→Option ((Int×(Ar UInt8 16))⊕((Ar UInt8 16)⊕β))}
  (h1: ∀(i:Nat) (A:Ar UInt8 16) (x:Nat),i<8→L[i]? =some x→F ((i:Int),A)=some (.inl (((i+1:Nat):Int),(A.set (2*i) (bc (x/256))).set (2*i+1) (bc (x%256)))))
  (h2: ∀A,F ((8:Int),A)=some (.inr (.inl A))):iter F (0,(ak 16 a7).z)=some (.inl (dH (Wc L))):=by
 rw[←WE hL]
 refine yI 8 (fun i=>((i:Int),Z6 L i)) rfl (fun i hi=> ?_) (h2 _)
 have e:L[i]? =some (L.getD i 0):=by rw[ad (by omega),kc,ad (by omega)];rfl
 exact h1 i (Z6 L i) _ hi e
theorem td256{n:Nat}(h:n<65536):(if 256=0 then none else some (ql qm (gc (n:Int) 256)))=some ((n/256:Nat):Int):=by
 rw[qo (by decide),show(256:Int)=((256:Nat):Int)from rfl,←iw,Bc (by omega)]
theorem tm256(n:Nat):(if 256=0 then none else some (gj (n:Int) 256))=some ((n%256:Nat):Int):=by
 rw[qo (by decide)];rfl
theorem wd2{i:Nat}(h:i<8):ql qm (2*(i:Int))=((2*i:Nat):Int):=by
 rw[show(2:Int)*(i:Int)=((2*i:Nat):Int) by omega,Bc (by omega)]
theorem wd21{i:Nat}(h:i<8):ql qm (((2*i:Nat):Int)+1)=((2*i+1:Nat):Int):=by
 rw[show((2*i:Nat):Int)+1=((2*i+1:Nat):Int) by omega,Bc (by omega)]
theorem wi1{i:Nat}(h:i<1000000000):ql qm ((i:Int)+1)=((i+1:Nat):Int):=by
 rw[show(i:Int)+1=((i+1:Nat):Int) by omega,Bc (by omega)]
theorem kO{L:List Nat}{i x:Nat}(h:L[i]? =some x):(cI L)[i]? =some (x:Int):=by
 unfold cI
 rw[ff,h];rfl
def colP(s:AG):Ar UInt8 16×Bool:=match pK s with|some l=>(dH l,true)|none=>((ak 16 a7).z,false)
theorem xQ(s:AG)(hl:s.length<1073741824):RE s=some (colP s):=by
 unfold RE colP pK
 rw[mL s (by omega),aa]
 unfold nV
 cases hg:It s with
 |none=>
  rw[qn (by decide),OW s true hl,aa]
  dsimp only
  cases h:JD true s with
  |none=>rfl
  |some L=>
   have hlt:=Zl h
   dsimp only
   rw[L1,KO,aa]
   by_cases h8:L.length=8
   ·rw[qn h8,qq (by omega:((L.length:Int)=8))]
    refine(qv (fun x:Option (Ar UInt8 16⊕_)=>x.bind _) (fE h8 (fun i A x hi hx=> ?_) (fun A=>rfl))).trans rfl
    have hx6:=hlt x (cq hx)
    dsimp only
    rw[qn (by rw[qp];omega),B5,kO hx,aa,td256 hx6,aa,wd2 hi,BV (by omega),aa,qn (by omega),aa,aa,tm256,aa,wd21 hi,BV (by omega),aa,qn (by omega),aa,wi1 (by omega),Um,Um]
   ·rw[qo h8,qr (by omega: ¬((L.length:Int)=8))];rfl
 |some q=>
  obtain⟨a,b⟩:=q
  have hs:=Z0 hg
  have hlen:s.length=a.length+(b.length+2):=by rw[hs];simp
  have e1:Ga s none (some (a.length:Int))=some a:=by rw[Np (by omega),hs,List.take_left]
  have e2:Ga s (some (ql qm ((a.length:Int)+2))) none=some b:=by
   rw[show(a.length:Int)+2=((a.length+2:Nat):Int) by omega,Bc (by omega),FH (by omega),hs,←ck,n6];rfl
  show(if(decide ((a.length:Int)<0))=true then _ else _)=_
  rw[qo (by rw[qp];omega)]
  refine(qv (fun x:Option AG=>x.bind _) e1).trans ?_
  rw[aa,OW a false (by omega),aa]
  refine(qv (fun x:Option AG=>x.bind _) e2).trans ?_
  rw[aa,OW b true (by omega),aa]
  dsimp only
  cases ha:JD false a with
  |none=>rfl
  |some l=>
   cases hb:JD true b with
   |none=>rfl
   |some m=>
    have la:=Zl ha
    have lb:=Zl hb
    dsimp only
    rw[aa,aa]
    rw[L1,L1,KO,KO]
    by_cases h7:l.length+m.length≤7
    ·have hw:ql qm ((l.length:Int)+(m.length:Int))=((l.length+m.length:Nat):Int):=by
      rw[show(l.length:Int)+(m.length:Int)=((l.length+m.length:Nat):Int) by omega,Bc (by omega)]
     have hd:decide (7<ql qm ((l.length:Int)+(m.length:Int)))=false:=by rw[hw];exact qr (by omega)
     rw[qn h7]
     rw[show(HD (!true) (some (!true)))=some false from rfl,aa,hd,show HD false (some false)=some false from rfl,aa,qo (by decide)]
     have hz:(8:Nat)-l.length-m.length=(8-l.length-m.length-1)+1:=by omega
     have hL8:(l++aq (8-l.length-m.length) 0++m).length=8:=by simp;omega
     have hlt: ∀n∈l++aq (8-l.length-m.length) 0++m,n<65536:=by
      intro n hn
      rcases go.1 hn with hn|hn
      ·rcases go.1 hn with hn|hn
       ·exact la n hn
       ·rw[(List.mem_replicate.1 hn).2];decide
      ·exact lb n hn
     refine(qv (fun x:Option (GS Int⊕(Ar UInt8 16×Bool))=>x.bind _) (yI (r:=Sum.inl (O6 (cI l))) l.length (fun i=>((i:Int),O6 (cI (l.take i)))) rfl (fun i hi=> ?_) ?_)).trans ?_
     ·dsimp only
      rw[qn (by rw[qp];omega),B5,kO (ad hi),aa,kU (by simp) (by rw[KO,a6];simp[Bs];omega),aa,wi1 (by omega),bd hi]
      unfold cI
      rw[de];rfl
     ·dsimp only
      rw[qo (by rw[qp];omega),kj]
     refine(qv (fun x:Option (GS Int⊕(Ar UInt8 16×Bool))=>x.bind _) (yI (s:=O6 (cI l)) (r:=Sum.inl (O6 (cI (l++aq (8-l.length-m.length) 0)))) (8-l.length-m.length) (fun i=>O6 (cI (l++aq i 0))) (by simp) (fun i hi=> ?_) ?_)).trans ?_
     ·rw[L1,KO,aw,k8,show((l.length+i:Nat):Int)+(m.length:Int)=((l.length+i+m.length:Nat):Int) by omega,Bc (by omega),qn (by rw[qp];omega),kU (by simp) (by rw[KO];simp[Bs];omega),aa,List.replicate_succ',←dl]
      unfold cI
      rw[de (l₂:=[0])];rfl
     ·rw[L1,KO,aw,k8,show((l.length+(8-l.length-m.length):Nat):Int)+(m.length:Int)=((8:Nat):Int) by omega,Bc (by omega),qo (by decide)]
     have happ:M7 8 (O6 (cI (l++aq (8-l.length-m.length) 0))) (cI m)=some (O6 (cI (l++aq (8-l.length-m.length) 0++m))):=by
      unfold M7
      rw[L1,qn (by rw[KO,KO];simp[Bs];omega)]
      have hne:cI (l++aq (8-l.length-m.length) 0)≠[]:=fun e=>by
       have:=qv f8 e
       rw[KO]at this;simp at this;omega
      have hap:cI (l++aq (8-l.length-m.length) 0++m)=cI (l++aq (8-l.length-m.length) 0)++cI m:=by unfold cI;rw[de]
      rw[hap]
      generalize cI (l++aq (8-l.length-m.length) 0)=u at hne
      cases u with
      |nil=>exact absurd rfl hne
      |cons y u=>rfl
     refine(qv (fun x:Option (GS Int)=>x.bind _) happ).trans ?_
     refine(qv (fun x:Option (Ar UInt8 16⊕(Ar UInt8 16×Bool))=>x.bind _) (fE hL8 (fun i A x hi hx=> ?_) (fun A=>rfl))).trans rfl
     have hx6:=hlt x (cq hx)
     dsimp only
     rw[qn (by rw[qp];omega),L1,KO,hL8,BV hi,aa,kO hx,an,aa,td256 hx6,aa,wd2 hi,BV (by omega),aa,qn (by omega),aa,wd21 hi,aa,kO hx,an,aa,tm256,aa,BV (by omega),aa,qn (by omega),aa,wi1 (by omega),Um,Um]
    ·rw[qo h7]
     have l1:=eT ha
     have l2:=eT hb
     rw[show(l.length:Int)+(m.length:Int)=((l.length+m.length:Nat):Int) by omega,Bc (by omega),qq (by omega:(7:Int)<((l.length+m.length:Nat):Int)),show(HD (!true) (some (!true)))=some false from rfl,aa,show HD false (some true)=some true from rfl,aa,qn rfl]
end
section
theorem Oy(s:AG)(c:UInt8):(1<(AK c s).length)↔c∈s:=by
 rw[ET]
 constructor
 ·intro h
  obtain⟨x,hx,e⟩:=om.1 (show 0<s.countP (fun x=>x==c) by omega)
  rw[←eq_of_beq e];exact hx
 ·intro h
  have:=(om (p:=fun x=>x==c) (l:=s)).2 ⟨c,h,by simp⟩
  omega
def st4(a b c d:UInt8)(i:Nat):AX:=⟨4,dH ([a,b,c,d].take i++aq (16-i) 0)⟩
theorem r10_of4(a b c d:UInt8):iM (GS.mk [a,b,c,d])=some (⟨4,dH ([a,b,c,d]++aq 12 0)⟩,true):=by
 unfold iM
 have e:(Bw (!decide (((GS.mk [a,b,c,d]).l.length:Int)=4)) (some (!decide (((GS.mk [a,b,c,d]).l.length:Int)=16))))=some false:=rfl
 rw[e,aa,qo (by decide)]
 refine(qv (fun x:Option (AX⊕(AX×Bool))=>x.bind _) (yI (r:=Sum.inl (st4 a b c d 4)) 4 (fun i=>((i:Int),st4 a b c d i)) rfl (fun i hi=> ?_) ?_)).trans rfl
 ·match i,hi with
  |0,_=>rfl
  |1,_=>rfl
  |2,_=>rfl
  |3,_=>rfl
 ·rfl
theorem xP(s:AG)(hl:s.length<1073741824):Ow s=some (Qg s):=by
 unfold Ow Qg
 rw[Gd s 58 hl,aa,Es]
 by_cases h:(58:UInt8)∈s
 ·have h1:=(Oy s 58).2 h
  rw[qn (by rw[qp];omega),qn h,xQ s hl,aa]
  unfold colP
  cases pK s with
  |none=>rfl
  |some l=>rfl
 ·have h1: ¬1<(AK 58 s).length:=fun e=>h ((Oy s 58).1 e)
  rw[qo (by rw[qp];omega),qo h,eA s hl,aa]
  unfold W1
  dsimp only
  by_cases hq:(DG s).2=0
  ·rw[qo (by simp[hq]),qn hq]
   have hlen:=Vw s
   generalize (DG s).1=B at hlen
   match B,hlen with
   |[a,b,c,d],_=>exact(qv (fun x:Option (AX×Bool)=>x.bind _) (r10_of4 a b c d)).trans rfl
  ·rw[qn (by simp[hq]),qo hq]
   rfl
theorem mJ(s:AG)(hl:s.length<1073741824):Uf s=some (match So s with|some (p,q)=>(p,q,true)|none=>([],[],false)):=by
 unfold Uf
 have key: ∀k i:Nat,s.length=i+k→iter (fun(s1:Int)=>
   let x5:=decide (ql qm (s1+1)<(s.length:Int))
   if x5=true then
   (Dj s s1).bind fun x6=>
   let x7:=decide ((x6.toNat:Int)=((93:UInt8).toNat:Int))
   (Bw x7 ((Dj s (ql qm (s1+1))).bind fun x9=>
   let x10:=decide ((x9.toNat:Int)=((58:UInt8).toNat:Int))
   some x10)).bind fun x11=>
   if x11=true then
   (Ga s none (some s1)).bind fun x12=>
   (Ga s (some (ql qm (s1+2))) none).bind fun x14=>
   (some (x12,x14,true)).map fun r=> .inr (.inr r)
   else
   some (.inl (ql qm (s1+1)))
   else
   some (.inr (.inl ()))) (i:Int)=some (match So (s.drop i)with|some (p,q)=>(Sum.inr (s.take i++p,q,true):Unit⊕(AG×AG×Bool))|none=> .inl ()):=by
  intro k
  induction k with
  |zero=>
   intro i hk
   rw[ce (by omega)]
   refine Bm ?_
   dsimp only
   rw[show(i:Int)+1=((i+1:Nat):Int) by omega,Bc (by omega),qo (by rw[qp];omega)]
   rfl
  |succ k ih=>
   intro i hk
   have hi:i<s.length:=by omega
   by_cases h2:i+1<s.length
   ·have ih':=ih (i+1) (by omega)
    rw[bk hi,bk h2,So]
    rw[bk h2]at ih'
    have c1:decide ((s[i].toNat:Int)=((93:UInt8).toNat:Int))=decide (s[i]=93):=decide_eq_decide.2 ⟨fun e=>ef.1 (ia e),fun e=>by rw[e]⟩
    have c2:decide ((s[i+1].toNat:Int)=((58:UInt8).toNat:Int))=decide (s[i+1]=58):=decide_eq_decide.2 ⟨fun e=>ef.1 (ia e),fun e=>by rw[e]⟩
    by_cases hc:s[i]=93∧s[i+1]=58
    ·rw[qn hc]
     refine Bm ?_
     dsimp only
     rw[show(i:Int)+1=((i+1:Nat):Int) by omega,Bc (by omega),qn (by rw[qp];omega),B5,ad hi,aa,B5,ad h2,aa,c1,c2,qq hc.1,qq hc.2,show(Bw true (some true))=some true from rfl,aa,qn rfl,Np (by omega),aa,show(i:Int)+2=((i+2:Nat):Int) by omega,Bc (by omega),FH (by omega),aa,dv]
     rfl
    ·rw[qo hc,BN (s':=((i+1:Nat):Int)),ih']
     ·cases So (s[i+1]::s.drop (i+1+1))with
      |none=>rfl
      |some pq=>
       obtain⟨p,q⟩:=pq
       show some (Sum.inr _)=some (Sum.inr _)
       rw[bd hi,dl];rfl
     ·dsimp only
      rw[show(i:Int)+1=((i+1:Nat):Int) by omega,Bc (by omega),qn (by rw[qp];omega),B5,ad hi,aa,B5,ad h2,aa,c1,c2]
      by_cases ha:s[i]=93
      ·rw[qq ha,qr (fun hb=>hc ⟨ha,hb⟩)];rfl
      ·rw[qr ha];rfl
   ·rw[bk hi,ce (l:=s) (i:=i+1) (by omega)]
    refine Bm ?_
    dsimp only
    rw[show(i:Int)+1=((i+1:Nat):Int) by omega,Bc (by omega),qo (by rw[qp];omega)]
    rfl
 refine(qv (fun x:Option (Unit⊕(AG×AG×Bool))=>x.bind _) (key s.length 0 (by omega))).trans ?_
 rw[db]
 cases So s with
 |none=>rfl
 |some pq=>rfl
theorem head_val(s:AG):((Bw (decide (0<(s.length:Int))) ((Dj s 0).bind fun x4=>
  let x5:=decide ((x4.toNat:Int)=((91:UInt8).toNat:Int))
  some x5)))=some (decide (s.head?=some 91)):=by
 cases s with
 |nil=>rfl
 |cons a r=>
  have c1:decide ((a.toNat:Int)=((91:UInt8).toNat:Int))=decide (a=91):=decide_eq_decide.2 ⟨fun e=>ef.1 (ia e),fun e=>by rw[e]⟩
  rw[qq (by simp only[bb];omega:(0:Int)<((a::r).length:Int))]
  show some (decide ((a.toNat:Int)=((91:UInt8).toNat:Int)))=_
  rw[c1]
  congr 1
  simp
noncomputable def restE(x6:Bool)(p7:AG×AG×Bool):Option (AI×Int):=
 (HD (!p7.2.2) ((FI p7.1 (58:UInt8)).bind fun x10=>
 some (!decide (decide (1<(x10.l.length:Int))=x6)))).bind fun x14=>
 if x14=true then
 some ((⟨Aw.z,0⟩:AI),5)
 else
 (Ow p7.1).bind fun x17=>
 if(!decide (x17.2=0))=true then
 some ((⟨Aw.z,0⟩:AI),x17.2)
 else
 (Lx p7.2.1 (65535:UInt64)).bind fun x25=>
 if(!decide (x25.2=0))=true then
 some ((⟨Aw.z,0⟩:AI),x25.2)
 else
 let x31:=decide ((x25.1.toNat:Int)=((0:UInt64).toNat:Int))
 if x31=true then
 some ((⟨Aw.z,0⟩:AI),6)
 else
 let x36:=(⟨x17.1,ql qm (x25.1.toNat:Int)⟩:AI)
 some (x36,0)
def endE(o:Option (AG×AG)):AI×Int:=
 match o with
 |none=>(C8,5)
 |some (h,p)=>if(Qg h).2=0 then(if(DV p 65535).2=0 then(if(DV p 65535).1=0 then(C8,6)else(⟨(Qg h).1,(DV p 65535).1⟩,0))else(C8,(DV p 65535).2))else(C8,(Qg h).2)
theorem dV(x6:Bool)(a b:AG)(ha:a.length<1073741824)(hb:b.length<1073741824):restE x6 (a,b,true)=some (endE (if decide ((58:UInt8)∈a)=x6 then some (a,b)else none)):=by
 unfold restE
 have hp:decide (1<(((GS.mk (AK 58 a)).l.length:Nat):Int))=decide ((58:UInt8)∈a):=by
  rw[Es]
  exact decide_eq_decide.2 ⟨fun h=>(Oy a 58).1 (by omega),fun h=>by have:=(Oy a 58).2 h;omega⟩
 dsimp only
 rw[Gd a 58 ha,aa,hp]
 by_cases h:decide ((58:UInt8)∈a)=x6
 ·rw[qn h,qq h,show HD (!true) (some (!true))=some false from rfl,aa,qo (by decide),xP a ha,aa]
  unfold endE
  dsimp only
  by_cases ha0:(Qg a).2=0
  ·rw[qo (by simp[ha0]),qn ha0,YW b _ hb,aa]
   unfold ZO
   have em:(65535:UInt64).toNat=65535:=rfl
   rw[em]
   dsimp only
   by_cases hd:(DV b 65535).2=0
   ·have hbd:(DV b 65535).1≤65535:=by
     unfold DV at hd ⊢
     split
     ·simp
     ·split
      ·simp
      ·dsimp only;omega
    rw[qo (by simp[hd]),qn hd]
    have et:(ei (DV b 65535).1).toNat=(DV b 65535).1:=mT (by omega)
    rw[et]
    by_cases h0:(DV b 65535).1=0
    ·rw[qn (by rw[qp,h0];rfl),qn h0];rfl
    ·rw[qo (by rw[qp];intro e;exact h0 (ia e)),qo h0,Bc (by omega)]
   ·rw[qn (by simp[hd]),qo hd];rfl
  ·rw[qn (by simp[ha0]),qo ha0];rfl
 ·rw[qo h,qr h];rfl
theorem yU(s:AG):IE s=endE (eX s):=by
 unfold IE endE
 cases eX s<;>rfl
theorem iL(s:AG):Ou s=((Bw (decide (0<(s.length:Int))) ((Dj s 0).bind fun x4=>
  let x5:=decide ((x4.toNat:Int)=((91:UInt8).toNat:Int))
  some x5))).bind fun x6=>(if x6=true then
   (Ga s (some 1) none).bind fun x38=>
   (Uf x38).bind fun x39=>
   some (.inl (x39.1,x39.2.1,x39.2.2))
   else
   (FI s (58:UInt8)).bind fun x43=>
   (Dj x43.l 0).bind fun x46=>
   if(decide (1<(x43.l.length:Int)))=true then
   (Dj x43.l 0).bind fun x48=>
   (Ga s (some (ql qm ((x48.length:Int)+1))) none).bind fun x52=>
   some (.inl (x46,x52,decide (1<(x43.l.length:Int))))
   else
   some (.inl (x46,[],decide (1<(x43.l.length:Int)))):Option ((AG×AG×Bool)⊕(AI×Int))).bind (a8 (restE x6) some):=rfl
theorem xO(s:AG)(hl:s.length<1073741824):Ou s=some (IE s):=by
 rw[iL,head_val,aa,yU]
 unfold eX
 by_cases h:s.head?=some 91
 ·have hn:1≤s.length:=by cases s with
   |nil=>simp at h
   |cons a r=>simp only[bb];omega
  rw[qq h,qn rfl,qn h,show(1:Int)=((1:Nat):Int)from rfl,FH hn,aa,mJ _ (by simp;omega),aa]
  cases hc:So (s.drop 1)with
  |none=>rfl
  |some pq=>
   obtain⟨p,q⟩:=pq
   have hlen:=pH hc
   rw[bh]at hlen
   refine(dV true p q (by omega) (by omega)).trans ?_
   rw[aa]
   by_cases hm:(58:UInt8)∈p
   ·rw[qn (qq hm),qn hm]
   ·rw[qo (by rw[qp];exact hm),qo hm]
 ·rw[qr h,qo (by decide),qo h,Gd s 58 hl,aa,Es]
  rcases L9 s 58 with ⟨hn,_⟩|⟨p,q,hs,hn,_⟩
  ·have h58:(58:UInt8)∉s:=fun h=>hn 58 h rfl
   rw[G8 hn,qo h58]
   rfl
  ·have hp:(58:UInt8)∉p:=fun h=>hn 58 h rfl
   have hlen:s.length=p.length+(q.length+1):=by rw[hs];simp
   have hm:(58:UInt8)∈s:=by rw[hs];simp
   have h1:=(Oy s 58).2 hm
   have hi:Dj (AK 58 s) 0=some p:=by rw[hs,Gb hn];rfl
   have hsub:Ga s (some (ql qm ((p.length:Int)+1))) none=some q:=by
    rw[show(p.length:Int)+1=((p.length+1:Nat):Int) by omega,Bc (by omega),FH (by omega),hs,←ck,n6];rfl
   rw[hi,aa,qq (by omega:(1:Int)<((AK 58 s).length:Int)),qn rfl,aa,hsub,aa,qn hm]
   refine(dV false p q (by omega) (by omega)).trans ?_
   rw[qn (qr hp)]
   rw[hs,pG hp]
end
section
theorem hexD_ne: ∀{s:AG} {l:List UInt8},Qn s=some l→s≠[]→l≠[]
 |[],_,_,h=>absurd rfl h
 |[_],_,e,_=>by cases e
 |a::b::r,l,e,_=>by
  simp only[Qn]at e
  obtain⟨x,_,e⟩:=ab.1 e
  obtain⟨y,_,e⟩:=ab.1 e
  obtain⟨m,_,rfl⟩:=aj.1 e
  simp
theorem cC(s:AG)(hl:s.length<1073741824): ∃b,Oq s=some (b,(Ir s).2)∧((Ir s).2=0→b=(Ir s).1):=by
 unfold Oq Ir
 by_cases h1:s=[45]
 ·rw[qn (qq h1),qn h1];exact⟨_,rfl,fun _=>rfl⟩
 ·rw[qo (by rw[qp];exact h1),qo h1,YV s hl]
  by_cases h2:s=[]
  ·rw[qn h2,h2]
   exact⟨_,rfl,fun h=>by cases h⟩
  ·rw[qo h2]
   unfold nN
   cases hh:Qn s with
   |none=>exact⟨_,rfl,fun _=>rfl⟩
   |some l=>
    have hne:=hexD_ne hh h2
    refine⟨O6 l,?_,fun _=>rfl⟩
    have h0:decide (((O6 l).l.length:Int)=0)=false:=by
     rw[decide_eq_false_iff_not]
     cases l with
     |nil=>exact absurd rfl hne
     |cons x r=>simp[O6,l6];omega
    show((Bw (decide ((0:Int)=0)) (some (decide (((O6 l).l.length:Int)=0)))).bind fun x8=>if x8=true then some (O6 l,(5:Int))else some (O6 l,0))=some (O6 l,0)
    rw[h0];rfl
theorem Yk(e:Al)(s:AG)(hl:s.length<1073741824): ∃b,MF e (98:UInt8) s=some ({e with Bytes:=b},(Ir s).2)∧((Ir s).2=0→b=(Ir s).1):=by
 obtain⟨b,h1,h2⟩:=cC s hl
 refine⟨b,?_,h2⟩
 show((Oq s).bind fun x3=>some (({e with Bytes:=x3.1}:Al),x3.2))=_
 rw[h1];rfl
theorem take_k(e:Al)(s:AG)(hl:s.length<1073741824):MF e (107:UInt8) s=some ({e with Key:=(O0 s).1},(O0 s).2):=by
 show((JA s).bind fun x3=>some (({e with Key:=x3.1}:Al),x3.2))=_
 rw[iN s hl];rfl
theorem take_t(e:Al)(s:AG)(hl:s.length<1073741824):MF e (116:UInt8) s=some ({e with To:=(IE s).1},(IE s).2):=by
 show((Ou s).bind fun x3=>some (({e with To:=x3.1}:Al),x3.2))=_
 rw[xO s hl];rfl
theorem take_w(e:Al)(s:AG)(hl:s.length<1073741824):MF e (119:UInt8) s=some ({e with Why:=(Xe s).1},(Xe s).2):=by
 have hle:=wJ s 20
 show((Lx s (20:UInt64)).bind fun x23=>(Bw (decide (x23.2=0)) (some (decide ((x23.1.toNat:Int)=((0:UInt64).toNat:Int))))).bind fun x28=>
  (if x28=true then some (.inl (6:Int))else some (.inl x23.2):Option (Int⊕(Al×Int))).bind (a8 (fun p29=>some (({e with Why:=ql qm (x23.1.toNat:Int)}:Al),p29)) some))=_
 rw[YW s _ hl]
 unfold ZO Xe
 rw[show(20:UInt64).toNat=20 from rfl,aa]
 dsimp only
 rw[mT (by omega),Bc (by omega),show((0:UInt64).toNat:Int)=0 from rfl]
 by_cases h0:(DV s 20).2=0
 ·rw[qq h0]
  by_cases h1:(DV s 20).1=0
  ·rw[qn ⟨h0,h1⟩,h1];rfl
  ·rw[qo (fun h=>h1 h.2),qr (by omega: ¬((DV s 20).1:Int)=0)];rfl
 ·rw[qr h0,qo (fun h=>h0 h.1)];rfl
noncomputable def MH(g:List AG)(s30:Int×Al):Option ((Int×Al)⊕(Al⊕(Al×Int))):=
 if(decide (s30.1<(g.length:Int)))=true then
  QE (BU ([[],[98],[116,107,98],[107,98],[98],[119],[116,98]]:List AG).length s30.2.Kind) fun x34 _=>
  QE (([[],[98],[116,107,98],[107,98],[98],[119],[116,98]]:List AG)[x34]?.map fun x=>x) fun x35 _=>
  (Dj x35 (ql qm (s30.1-1))).bind fun x37=>
  QE (Dj g s30.1) fun x38 _=>
  QE (MF s30.2 x37 x38) fun x40 _=>
  if(!decide (x40.2=0))=true then
   (some (Ok,x40.2)).map fun r=> .inr (.inr r)
  else some (.inl (ql qm (s30.1+1),x40.1))
 else some (.inr (.inl s30.2))
noncomputable def MG(g:List AG)(e:Al):Option (Al×Int):=(iter (MH g) (1,e)).bind (a8 (fun p=>some (p,0)) some)
noncomputable def Fv(g:List AG)(p7:Al):Option (Al×Int):=
 if(decide (p7.Kind=0))=true then some (p7,12)
 else
  (BU ([[],[98],[116,107,98],[107,98],[98],[119],[116,98]]:List AG).length p7.Kind).bind fun x23=>
  (([[],[98],[116,107,98],[107,98],[98],[119],[116,98]]:List AG)[x23]?.map fun x=>x).bind fun x24=>
  if(!decide ((g.length:Int)=ql qm ((x24.length:Int)+1)))=true then some (Ok,5)else MG g p7
theorem Ll{F:Int×Al→Option ((Int×Al)⊕(Al⊕(Al×Int)))}{i j:Int}{e e':Al}{x:Int}{t:Option (Al×Int)}
  (hF:F (i,e)=QE t fun x40 _=>if(!decide (x40.2=0))=true then(some (Ok,x40.2)).map fun r=> .inr (.inr r)else some (.inl (j,x40.1))) (ht:t=some (e',x)) {R:Al×Int} (h:(iter F (j,e')).bind (a8 (fun p=>some (p,0)) some)=some R):
  (iter F (i,e)).bind (a8 (fun p=>some (p,0)) some)=some (UT x Ok R):=by
 subst ht
 unfold UT
 by_cases hx:x=0
 ·subst hx
  rw[qn rfl,BN (hF.trans rfl)]
  exact h
 ·rw[qo hx,Bm (b:= .inr (Ok,x)) (hF.trans (show(if(!decide (x=0))=true then _ else _)=_ by rw[qr hx];rfl))]
  rfl
theorem OG{F:Int×Al→Option ((Int×Al)⊕(Al⊕(Al×Int)))}{i:Int}{e:Al}(hF:F (i,e)=some (.inr (.inl e))):(iter F (i,e)).bind (a8 (fun p=>some (p,0)) some)=some (e,0):=by
 rw[Bm hF];rfl
theorem Pd{x:Int}{a b:Al×Int}(h:x=0→a=b):UT x Ok a=UT x Ok b:=by
 unfold UT
 by_cases hx:x=0
 ·rw[qn hx,qn hx,h hx]
 ·rw[qo hx,qo hx]
theorem rest1(p u:AG)(hu:u.length<1073741824):Fv [p,u] ⟨1, .nil,C8,zK,0⟩=some (Pa 1 [p,u]):=by
 obtain⟨b,h1,h2⟩:=Yk ⟨1, .nil,C8,zK,0⟩ u hu
 refine(show Fv [p,u] ⟨1, .nil,C8,zK,0⟩=MG [p,u] ⟨1, .nil,C8,zK,0⟩from rfl).trans ?_
 refine(Ll (F:=MH [p,u]) (i:=1) (j:=2) rfl h1 (OG rfl)).trans ?_
 exact qv some (Pd fun h=>by rw[h2 h];rfl)
theorem rest4(p u:AG)(hu:u.length<1073741824):Fv [p,u] ⟨4, .nil,C8,zK,0⟩=some (Pa 4 [p,u]):=by
 obtain⟨b,h1,h2⟩:=Yk ⟨4, .nil,C8,zK,0⟩ u hu
 refine(show Fv [p,u] ⟨4, .nil,C8,zK,0⟩=MG [p,u] ⟨4, .nil,C8,zK,0⟩from rfl).trans ?_
 refine(Ll (F:=MH [p,u]) (i:=1) (j:=2) rfl h1 (OG rfl)).trans ?_
 exact qv some (Pd fun h=>by rw[h2 h];rfl)
theorem rest5(p u:AG)(hu:u.length<1073741824):Fv [p,u] ⟨5, .nil,C8,zK,0⟩=some (Pa 5 [p,u]):=by
 refine(show Fv [p,u] ⟨5, .nil,C8,zK,0⟩=MG [p,u] ⟨5, .nil,C8,zK,0⟩from rfl).trans ?_
 exact(Ll (F:=MH [p,u]) (i:=1) (j:=2) rfl (take_w _ u hu) (OG rfl)).trans rfl
theorem rest3(p u v:AG)(hu:u.length<1073741824)(hv:v.length<1073741824):Fv [p,u,v] ⟨3, .nil,C8,zK,0⟩=some (Pa 3 [p,u,v]):=by
 obtain⟨b,h1,h2⟩:=Yk ⟨3, .nil,C8,(O0 u).1,0⟩ v hv
 refine(show Fv [p,u,v] ⟨3, .nil,C8,zK,0⟩=MG [p,u,v] ⟨3, .nil,C8,zK,0⟩from rfl).trans ?_
 refine(Ll (F:=MH [p,u,v]) (i:=1) (j:=2) rfl (take_k _ u hu) (Ll (i:=2) (j:=3) rfl h1 (OG rfl))).trans ?_
 exact qv some (Pd fun _=>Pd fun h=>by rw[h2 h];rfl)
theorem rest6(p u v:AG)(hu:u.length<1073741824)(hv:v.length<1073741824):Fv [p,u,v] ⟨6, .nil,C8,zK,0⟩=some (Pa 6 [p,u,v]):=by
 obtain⟨b,h1,h2⟩:=Yk ⟨6, .nil,(IE u).1,zK,0⟩ v hv
 refine(show Fv [p,u,v] ⟨6, .nil,C8,zK,0⟩=MG [p,u,v] ⟨6, .nil,C8,zK,0⟩from rfl).trans ?_
 refine(Ll (F:=MH [p,u,v]) (i:=1) (j:=2) rfl (take_t _ u hu) (Ll (i:=2) (j:=3) rfl h1 (OG rfl))).trans ?_
 exact qv some (Pd fun _=>Pd fun h=>by rw[h2 h];rfl)
theorem rest2(p t u v:AG)(ht:t.length<1073741824)(hu:u.length<1073741824)(hv:v.length<1073741824):Fv [p,t,u,v] ⟨2, .nil,C8,zK,0⟩=some (Pa 2 [p,t,u,v]):=by
 obtain⟨b,h1,h2⟩:=Yk ⟨2, .nil,(IE t).1,(O0 u).1,0⟩ v hv
 refine(show Fv [p,t,u,v] ⟨2, .nil,C8,zK,0⟩=MG [p,t,u,v] ⟨2, .nil,C8,zK,0⟩from rfl).trans ?_
 refine(Ll (F:=MH [p,t,u,v]) (i:=1) (j:=2) rfl (take_t _ t ht) (Ll (i:=2) (j:=3) rfl (take_k _ u hu) (Ll (i:=3) (j:=4) rfl h1 (OG rfl)))).trans ?_
 exact qv some (Pd fun _=>Pd fun _=>Pd fun h=>by rw[h2 h];rfl)
theorem RC(P:List AG)(k:Int)(n:Nat)(x:AG)(h0: ¬k=0)(hi:BU 7 k=some n)(hx:([[],[98],[116,107,98],[107,98],[98],[119],[116,98]]:List AG)[n]? =some x)(hxl:x.length<10)(hl:P.length≠x.length+1):Fv P ⟨k, .nil,C8,zK,0⟩=some (Ok,5):=by
 unfold Fv
 rw[qo (by rw[qp];exact h0)]
 refine(qv (fun o:Option Nat=>o.bind _) (show BU ([[],[98],[116,107,98],[107,98],[98],[119],[116,98]]:List AG).length k=some n from hi)).trans ?_
 refine(qv (fun o:Option AG=>(o.map fun x=>x).bind _) hx).trans ?_
 refine qn ?_
 rw[show(x.length:Int)+1=((x.length+1:Nat):Int) by omega,Bc (by omega),qr (by omega)];rfl
def kev(k:Int):Al:=⟨k, .nil,C8,zK,0⟩
theorem sP{P:List AG}{p:AG}{F:Int×Al→Option ((Int×Al)⊕(Al⊕(Al×Int)))}
  (hs: ∀(k:Int) (n:Nat) (w:AG) (e:Al),BU 7 k=some n→([[],w1,w2,w3,w4,w5,w6]:List AG)[n]? =some w→k≤6→F (k,e)=some (.inl (ql qm (k+1),if w=p then{e with Kind:=k}else e)))
  (he: ∀e,F (7,e)=some (.inr (.inl e))) {K:Al⊕(Al×Int)→Option (Al×Int)}:(iter F (1,Ok)).bind K=K (.inl (kev (E8 p))):=by
 have step: ∀(k:Int) (n:Nat) (w:AG) (e:Al) (j:Int),BU 7 k=some n→([[],w1,w2,w3,w4,w5,w6]:List AG)[n]? =some w→k≤6→ql qm (k+1)=j→iter F (k,e)=iter F (j,if w=p then{e with Kind:=k}else e):=fun k n w e j h1 h2 h3 h4=>by
  rw[BN (hs k n w e h1 h2 h3),h4]
 rw[step 1 1 w1 Ok 2 rfl rfl (by decide) rfl,step 2 2 w2 _ 3 rfl rfl (by decide) rfl,step 3 3 w3 _ 4 rfl rfl (by decide) rfl,step 4 4 w4 _ 5 rfl rfl (by decide) rfl,step 5 5 w5 _ 6 rfl rfl (by decide) rfl,step 6 6 w6 _ 7 rfl rfl (by decide) rfl,Bm (he _),aa]
 congr 2
 unfold E8 kev
 by_cases e1:p=w1
 ·subst e1;rfl
 by_cases e2:p=w2
 ·subst e2;rfl
 by_cases e3:p=w3
 ·subst e3;rfl
 by_cases e4:p=w4
 ·subst e4;rfl
 by_cases e5:p=w5
 ·subst e5;rfl
 by_cases e6:p=w6
 ·subst e6;rfl
 rw[qo (show¬w6=p from fun h=>e6 h.symm),qo (show¬w5=p from fun h=>e5 h.symm),qo (show¬w4=p from fun h=>e4 h.symm),qo (show¬w3=p from fun h=>e3 h.symm),qo (show¬w2=p from fun h=>e2 h.symm),qo (show¬w1=p from fun h=>e1 h.symm),qo e1,qo e2,qo e3,qo e4,qo e5,qo e6]
 rfl
theorem xM(s:AG)(hl:s.length<1073741824):K9 s=Fv (AK 32 s) (kev (E8 ((AK 32 s).getD 0 []))):=by
 obtain⟨p,r,e⟩:=cn (C6 (c:=32) s)
 unfold K9
 rw[Gd s 32 hl,aa,e]
 refine(sP (P:=p::r) (p:=p) ?_ ?_).trans rfl
 ·intro k n w e h1 h2 h3
  dsimp only
  rw[qn (qq h3)]
  refine(qv (fun o:Option Nat=>o.bind _) (show BU ([[],w1,w2,w3,w4,w5,w6]:List AG).length k=some n from h1)).trans ?_
  refine(qv (fun o:Option AG=>(o.map fun x=>x).bind _) h2).trans ?_
  show(if decide (w=p)=true then _ else _)=_
  by_cases hw:w=p
  ·rw[qn (qq hw),qn hw]
  ·rw[qo (by rw[qp];exact hw),qo hw]
 ·intro e;rfl
theorem xN(s:AG)(hl:s.length≤100000):K9 s=some (EA s):=by
 rw[xM s (by omega)]
 have hsub: ∀x∈AK 32 s,x.length<1073741824:=fun x hx=>by have:=Ec hx;omega
 unfold EA
 dsimp only
 generalize AK 32 s=P at hsub
 have hk: ∀w,E8 w=1∨E8 w=2∨E8 w=3∨E8 w=4∨E8 w=5∨E8 w=6∨E8 w=0:=fun w=>by
  unfold E8
  repeat' split
  all_goals simp
 have h2: ∀{m:Nat},P.length=m+1→ ∃p r,P=p::r∧r.length=m:=fun{m} h=>by
  cases P with
  |nil=>cases h
  |cons p r=>exact⟨p,r,rfl,by simpa using h⟩
 rcases hk (P.getD 0 [])with h|h|h|h|h|h|h<;>rw[h]
 ·rw[qo (by decide)]
  by_cases hc:P.length=2
  ·rw[qn (show P.length=LS 1 from hc)]
   match P,hc,hsub with
   |[p,u],_,hs=>exact rest1 p u (hs u (by simp))
  ·rw[qo (show¬P.length=LS 1 from hc)];exact RC P 1 1 [98] (by decide) rfl rfl (by decide) hc
 ·rw[qo (by decide)]
  by_cases hc:P.length=4
  ·rw[qn (show P.length=LS 2 from hc)]
   match P,hc,hsub with
   |[p,t,u,v],_,hs=>exact rest2 p t u v (hs t (by simp)) (hs u (by simp)) (hs v (by simp))
  ·rw[qo (show¬P.length=LS 2 from hc)];exact RC P 2 2 [116,107,98] (by decide) rfl rfl (by decide) hc
 ·rw[qo (by decide)]
  by_cases hc:P.length=3
  ·rw[qn (show P.length=LS 3 from hc)]
   match P,hc,hsub with
   |[p,u,v],_,hs=>exact rest3 p u v (hs u (by simp)) (hs v (by simp))
  ·rw[qo (show¬P.length=LS 3 from hc)];exact RC P 3 3 [107,98] (by decide) rfl rfl (by decide) hc
 ·rw[qo (by decide)]
  by_cases hc:P.length=2
  ·rw[qn (show P.length=LS 4 from hc)]
   match P,hc,hsub with
   |[p,u],_,hs=>exact rest4 p u (hs u (by simp))
  ·rw[qo (show¬P.length=LS 4 from hc)];exact RC P 4 4 [98] (by decide) rfl rfl (by decide) hc
 ·rw[qo (by decide)]
  by_cases hc:P.length=2
  ·rw[qn (show P.length=LS 5 from hc)]
   match P,hc,hsub with
   |[p,u],_,hs=>exact rest5 p u (hs u (by simp))
  ·rw[qo (show¬P.length=LS 5 from hc)];exact RC P 5 5 [119] (by decide) rfl rfl (by decide) hc
 ·rw[qo (by decide)]
  by_cases hc:P.length=3
  ·rw[qn (show P.length=LS 6 from hc)]
   match P,hc,hsub with
   |[p,u,v],_,hs=>exact rest6 p u v (hs u (by simp)) (hs v (by simp))
  ·rw[qo (show¬P.length=LS 6 from hc)];exact RC P 6 6 [116,98] (by decide) rfl rfl (by decide) hc
 ·rw[qn rfl];rfl
end
section
theorem XX(e:Al)(hb:e.Bytes.l.length≤9000)(h:QY e=true):(XY e).length≤100000:=by
 obtain⟨k,b,t,y,w⟩:=e
 have l1:=UU hb
 have l2:=V9 t
 have l3:=iZ y
 dsimp only at l1
 unfold XY evF
 dsimp only
 have hj: ∀l:List AG,(∀x∈l,x.length≤20000)→l.length≤4→(Ds [32] l).length≤100000:=fun l hx hl=>by
  rw[Hv]
  have hs: ∀m:List AG,(∀x∈m,x.length≤20000)→NG m≤20000*m.length:=fun m=>by
   induction m with
   |nil=>intro _;simp[NG]
   |cons a m ih=>
    intro hm
    have h1:=hm a (by simp)
    have h2:=ih fun x hx=>hm x (by simp[hx])
    simp only[NG,bn,ot,bb]at h2 ⊢
    omega
  have:=hs l hx
  simp only[gv]
  omega
 have lw: ∀n:Nat,n<18446744073709551616→(J4 n).length≤20000:=fun n hn=>by
  have:=Kg n;omega
 repeat' split
 ·exact hj _ (by intro x hx;simp only[bu,jm,or_false]at hx;rcases hx with rfl|rfl<;>first|decide|omega) (by simp)
 ·exact hj _ (by intro x hx;simp only[bu,jm,or_false]at hx;rcases hx with rfl|rfl|rfl|rfl<;>first|decide|omega) (by simp)
 ·exact hj _ (by intro x hx;simp only[bu,jm,or_false]at hx;rcases hx with rfl|rfl|rfl<;>first|decide|omega) (by simp)
 ·exact hj _ (by intro x hx;simp only[bu,jm,or_false]at hx;rcases hx with rfl|rfl<;>first|decide|omega) (by simp)
 ·rename_i h1 h2 h3 h4 h5
  subst h5
  have hw:w.toNat<18446744073709551616:=by
   simp[QY]at h
   omega
  exact hj _ (by intro x hx;simp only[bu,jm,or_false]at hx;rcases hx with rfl|rfl<;>first|decide|exact lw _ hw) (by simp)
 ·exact hj _ (by intro x hx;simp only[bu,jm,or_false]at hx;rcases hx with rfl|rfl|rfl<;>first|decide|omega) (by simp)
theorem wU(x y:Al)(hx:x.Bytes.l.length≤9000)(hy:y.Bytes.l.length≤9000):Ln (GS.mk [x,y])=some (if(QY x&&QY y)=true then(UY [XY x,XY y],0)else([],1)):=by
 unfold Ln
 cases hxr:QY x with
 |false=>
  rw[Bm (b:= .inr ([],1)) (by
   show((Dr x).bind _)=_
   rw[Sw x hxr];rfl)]
  rfl
 |true=>
  have lx:=XX x hx hxr
  rw[BN (s':=((1:Int),GS.mk [XY x])) (by
   show((Dr x).bind _)=_
   rw[SS x hx hxr];rfl)]
  cases hyr:QY y with
  |false=>
   rw[Bm (b:= .inr ([],1)) (by
    show((Dr y).bind _)=_
    rw[Sw y hyr];rfl)]
   rfl
  |true=>
   have ly:=XX y hy hyr
   rw[BN (s':=((2:Int),GS.mk [XY x,XY y])) (by
    show((Dr y).bind _)=_
    rw[SS y hy hyr];rfl),Bm (b:= .inl (GS.mk [XY x,XY y])) rfl]
   show((ML (GS.mk [XY x,XY y])).bind _)=_
   rw[join_val _ (by show(UY [XY x,XY y]).length≤Bs;unfold Bs;simp only[UY,eh,mw,aw,bb,bz];omega)]
   rfl
def kT:Nat→List AG→Option (Nat×Int)
 |_,[]=>none
 |i,x::r=>if(EA x).2=0 then kT (i+1) r else some (i,(EA x).2)
def readRes(o:Option (Nat×Int))(n:Nat)(b:(GS Al)⊕((GS Al)×Int×Int)):Prop:=
 match o with
 |some p=>b= .inr (.nil,((p.1+1:Nat):Int),p.2)
 |none=> ∃g,b= .inl g∧g.l.length=n
theorem dW{L:List AG}(hL:L.length≤10000)(hx: ∀x∈L,x.length≤9000){F:Int×(GS Al)→Option ((Int×(GS Al))⊕((GS Al)⊕((GS Al)×Int×Int)))}
  (hF: ∀(i:Nat) (x:AG) (g:GS Al),L[i]? =some x→F ((i:Int),g)=(Cv x).bind fun x11=>if(!decide (x11.2=0))=true then some (.inr (.inr (.nil,ql qm ((i:Int)+1),x11.2)))else(M7 104 g [x11.1]).bind fun x20=>some (.inl (ql qm ((i:Int)+1),x20)))
  (hE: ∀g,F ((L.length:Int),g)=some (.inr (.inl g))): ∀(r:List AG) (i:Nat) (g:GS Al),L.drop i=r→i≤L.length→g.l.length=i→ ∃b,iter F ((i:Int),g)=some b∧readRes (kT i r) L.length b
 |[],i,g,h,hi,hg=>by
  have:i=L.length:=by have:=qv f8 h;simp at this;omega
  subst this
  exact⟨_,Bm (hE g),g,rfl,hg⟩
 |x::r,i,g,h,hi,hg=>by
  have hlt:i<L.length:=by have:=qv f8 h;simp at this;omega
  have hix:L[i]? =some x:=by rw[←List.head?_drop,h];rfl
  have hr:L.drop (i+1)=r:=by rw[←ck,h];rfl
  have hs:=hF i x g hix
  have hxl:=hx x (cq hix)
  rw[Xg x (by omega),aa,show(i:Int)+1=((i+1:Nat):Int) by omega,Bc (by omega)]at hs
  simp only[kT]
  by_cases h0:(EA x).2=0
  ·rw[qo (by rw[qq h0];decide),PK (by unfold Bs;omega),aa]at hs
   rw[qn h0,BN hs]
   exact dW hL hx hF hE r (i+1) _ hr (by omega) (by simp[l6,←hg])
  ·rw[qn (by rw[qr h0];rfl)]at hs
   rw[qo h0]
   exact⟨_,Bm hs,rfl⟩
theorem nJ{L:List AG}(hL:L.length≤10000)(hx: ∀x∈L,x.length≤9000){F:Int→Option (Int⊕(Unit⊕Bool))}{o:Option (Nat×Int)}(ho:kT 0 L=o)
  (hF: ∀(i:Nat) (x:AG),L[i]? =some x→((EA x).2=0→F (i:Int)=some (.inl ((i+1:Nat):Int)))∧(∀p,o=some p→(EA x).2≠0→F (i:Int)=some (.inr (.inr (decide (((p.1+1:Nat):Int)=((i+1:Nat):Int))&&decide (p.2=(EA x).2))))))
  (hE:F (L.length:Int)=some (.inr (.inl ()))): ∀(r:List AG) (i:Nat),L.drop i=r→i≤L.length→kT i r=o→iter F (i:Int)=some (match o with|some _=> .inr true|none=> .inl ())
 |[],i,h,hi,hb=>by
  have:i=L.length:=by have:=qv f8 h;simp at this;omega
  subst this
  cases hb
  exact Bm hE
 |x::r,i,h,hi,hb=>by
  have hlt:i<L.length:=by have:=qv f8 h;simp at this;omega
  have hix:L[i]? =some x:=by rw[←List.head?_drop,h];rfl
  have hr:L.drop (i+1)=r:=by rw[←ck,h];rfl
  have hs:=hF i x hix
  simp only[kT]at hb
  by_cases h0:(EA x).2=0
  ·rw[qn h0]at hb
   rw[BN (hs.1 h0)]
   exact nJ hL hx ho hF hE r (i+1) hr (by omega) hb
  ·rw[qo h0]at hb
   subst hb
   have h1:=hs.2 _ rfl h0
   rw[qq rfl,qq rfl]at h1
   exact Bm h1
theorem lines_of(s:AG)(hl:s.length≤9000):(∃L g',(s=[]∨ ∃m,s=m++[10])∧(∃g,EB s=some (g,true)∧g.l=L)∧KA s=some g'∧g'.l=L∧L.length≤10000∧ ∀x∈L,x.length≤9000)∨(s≠[]∧(∀m,s≠m++[10])∧EB s=some (.nil,false)):=by
 obtain⟨g,g',h1,h2,h3,h4⟩:=sA s (by omega)
 by_cases h0:s=[]
 ·subst h0
  refine .inl ⟨[],g', .inl rfl,⟨_,rY,rfl⟩,h2,?_,by decide,by simp⟩
  have:EC []=some .nil:=by simp[EC]
  rw[this]at h1;cases h1
  exact h3.symm
 by_cases h: ∃m,s=m++[10]
 ·obtain⟨m,rfl⟩:=h
  rw[aw,gv]at hl
  have e:=V4 m (by omega)
  rw[e]at h1;cases h1
  have hle:=Vb (c:=10) m
  refine .inl ⟨AK 10 m,g', .inr ⟨m,rfl⟩,⟨_,rX m (by omega),rfl⟩,h2,h3.symm,by omega,fun x hx=> ?_⟩
  have:=Ec hx;omega
 ·exact .inr ⟨h0,fun m e=>h ⟨m,e⟩,mZ s (by omega) h0 fun m e=>h ⟨m,e⟩⟩
def We(s:AG):Option Bool:=(Bw (decide (0<(s.length:Int))) ((Dj s (ql qm ((s.length:Int)-1))).bind fun x31=>
 let x32:= !decide ((x31.toNat:Int)=((10:UInt8).toNat:Int))
 some x32))
theorem zU{m:AG}(hl:m.length≤9000):We (m++[10])=some false:=by
 unfold We
 have h1:(0:Int)<(((m++[10]:AG)).length:Int):=by rw[aw];simp only[gv];omega
 have h2:(((m++[10]:AG)).length:Int)-1=(m.length:Int):=by simp
 rw[qq h1,h2,Bc (by omega),B5]
 simp[Bw]
theorem tZ{s:AG}(hl:s.length≤9000)(h0:s≠[])(h: ∀m,s≠m++[10]):We s=some true:=by
 have hd:=List.dropLast_concat_getLast h0
 have hp:=lr.2 h0
 have hc:s.getLast h0≠10:=fun e=>h s.dropLast (by rw[←e,hd])
 unfold We
 rw[qq (show(0:Int)<(s.length:Int) by omega),show(s.length:Int)-1=((s.length-1:Nat):Int) by omega,Bc (by omega),B5]
 have:s[s.length-1]? =some (s.getLast h0):=by rw[List.getLast_eq_getElem,ad]
 rw[this]
 have:decide (((s.getLast h0).toNat:Int)=((10:UInt8).toNat:Int))=false:=by
  rw[decide_eq_false_iff_not]
  intro e
  exact hc (UInt8.toNat.inj (by omega))
 show some (!decide (((s.getLast h0).toNat:Int)=((10:UInt8).toNat:Int)))=_
 rw[this];rfl
theorem read_ok(s:AG){L:List AG}{g:GS AG}(h1:EB s=some (g,true))(hg:g.l=L)(hL:L.length≤10000)(hx: ∀x∈L,x.length≤9000):
  ∃b,IZ s=some b∧(match kT 0 L with|some p=>b=(.nil,((p.1+1:Nat):Int),p.2)|none=>b.1.l.length=L.length∧b.2=(0,0)):=by
 unfold IZ
 rw[h1,aa]
 subst hg
 obtain⟨b,h2,h3⟩:=dW (F:=fun s6:Int×(GS Al)=>if(decide (s6.1<(g.l.length:Int)))=true then(Dj g.l s6.1).bind fun x9=>(Cv x9).bind fun x11=>
   if(!decide (x11.2=0))=true then(some (GS.nil,ql qm (s6.1+1),x11.2)).map fun r=> .inr (.inr r)else(M7 104 s6.2 [x11.1]).bind fun x20=>some (.inl (ql qm (s6.1+1),x20))else some (.inr (.inl s6.2)))
  hL hx (fun i x g0 hi=>by
   have hlt:i<g.l.length:=(ca.1 hi).1
   dsimp only
   rw[qn (by rw[qp];omega),B5,hi];rfl)
  (fun g0=>by dsimp only;rw[qo (by rw[qp];omega)]) g.l 0 .nil rfl (ib _) rfl
 refine⟨a8 (fun p7=>(p7,0,0)) id b,?_,?_⟩
 ·refine(qv (fun o:Option ((GS Al)⊕((GS Al)×Int×Int))=>o.bind _) h2).trans ?_
  cases b<;>rfl
 ·cases hb:kT 0 g.l with
  |some p=>rw[hb]at h3;cases h3;rfl
  |none=>rw[hb]at h3;obtain⟨g1,rfl,hg1⟩:=h3;exact⟨hg1,rfl⟩
noncomputable def restT(a0:AG)(a1 a2:Al):Option Bool:=
 (IZ a0).bind fun x23=>
 (We a0).bind fun x33=>
 if x33=true then
 (Bw (decide ((x23.1.l.length:Int)=0)) (some (decide (x23.2.1=0)))).bind fun x37=>
 (Bw x37 (some (decide (x23.2.2=5)))).bind fun x39=>
 (Bw x39 ((Gw ()).bind fun x40=>
 some x40)).bind fun x41=>
 some x41
 else
 (KA a0).bind fun x42=>
 (iter (fun(s43:Int)=>
 if(decide (s43<(x42.l.length:Int)))=true then
 (Dj x42.l s43).bind fun x47=>
 (K9 x47).bind fun x49=>
 if(!decide (x49.2=0))=true then
 (Bw (decide ((x23.1.l.length:Int)=0)) (some (decide (x23.2.1=ql qm (s43+1))))).bind fun x59=>
 (Bw x59 (some (decide (x23.2.2=x49.2)))).bind fun x61=>
 (Bw x61 ((Gw ()).bind fun x62=>
 some x62)).bind fun x63=>
 (some x63).map fun r=> .inr (.inr r)
 else
 some (.inl (ql qm (s43+1)))
 else
 some (.inr (.inl ()))) 0).bind (a8 (fun(p44:Unit)=>
 (Bw (decide ((x23.1.l.length:Int)=(x42.l.length:Int))) (some (decide (x23.2.1=0)))).bind fun x69=>
 (Bw x69 (some (decide (x23.2.2=0)))).bind fun x71=>
 (Bw x71 ((ES a1 a2).bind fun x74=>
 (MI a1 a2).bind fun x77=>
 some (decide (x74=x77)))).bind fun x79=>
 (Bw x79 ((Gw ()).bind fun x80=>
 some x80)).bind fun x81=>
 some x81) some)
theorem xG(s:AG)(x y:Al)(hs:s.length≤9000)(hx:x.Bytes.l.length≤9000):restT s x y=some true:=by
 unfold restT
 rcases lines_of s hs with ⟨L,g',he,⟨g,h1,hg⟩,h2,hg',hL,hxl⟩|⟨h0,hn,h1⟩
 ·obtain⟨b,hb,hr⟩:=read_ok s h1 hg hL hxl
  have hbe:We s=some false:=by
   rcases he with rfl|⟨m,rfl⟩
   ·rfl
   ·exact zU (by rw[aw,gv]at hs;omega)
  rw[hb,aa,hbe,aa,qo (by decide),h2,aa]
  subst hg'
  generalize ho:kT 0 g'.l=o at hr
  have hl:=nJ (F:=fun(s43:Int)=>if(decide (s43<(g'.l.length:Int)))=true then(Dj g'.l s43).bind fun x47=>(K9 x47).bind fun x49=>
   if(!decide (x49.2=0))=true then
   (Bw (decide ((b.1.l.length:Int)=0)) (some (decide (b.2.1=ql qm (s43+1))))).bind fun x59=>(Bw x59 (some (decide (b.2.2=x49.2)))).bind fun x61=>(Bw x61 ((Gw ()).bind fun x62=>some x62)).bind fun x63=>(some x63).map fun r=> .inr (.inr r)
   else some (.inl (ql qm (s43+1)))else some (.inr (.inl ()))) hL hxl ho (fun i z hi=>by
    have hlt:i<g'.l.length:=(ca.1 hi).1
    have hzl:=hxl z (cq hi)
    rw[qn (by rw[qp];omega),B5,hi,aa,xN z (by omega),aa,show(i:Int)+1=((i+1:Nat):Int) by omega,Bc (by omega)]
    refine⟨fun h9=>qo (by rw[qq h9];decide),fun p hp h9=> ?_⟩
    subst hp
    rw[qn (by rw[qr h9];rfl),hr,Hu]
    show((Bw true (some (decide (((p.1+1:Nat):Int)=((i+1:Nat):Int))))).bind fun x59=>(Bw x59 (some (decide (p.2=(EA z).2)))).bind _)=_
    cases decide (((p.1+1:Nat):Int)=((i+1:Nat):Int))<;>cases decide (p.2=(EA z).2)<;>rfl)
   (by rw[qo (by rw[qp];omega)]) g'.l 0 rfl (ib _) ho
  refine(qv (fun o:Option (Unit⊕Bool)=>o.bind _) hl).trans ?_
  cases o with
  |some p=>rfl
  |none=>
   obtain⟨h3,h4⟩:=hr
   show((Bw (decide ((b.1.l.length:Int)=(g'.l.length:Int))) (some (decide (b.2.1=0)))).bind _)=_
   rw[h4,qq (by omega),Wx,Wy _ _ (by omega),Hu]
   cases Kt x y<;>rfl
 ·have hr:IZ s=some (.nil,0,5):=by unfold IZ;rw[h1];rfl
  rw[hr,aa,tZ hs h0 hn,aa,Hu]
  rfl
theorem Vy(s:AG)(x y:Al):MM s x y=some true:=by
 unfold MM Uq
 by_cases hlen:(9000:Int)<(s.length:Int)
 ·rw[qq hlen,Hu];rfl
 by_cases hx:(9000:Int)<(x.Bytes.l.length:Int)
 ·rw[qr hlen,qq hx,Hu];rfl
 by_cases hy:(9000:Int)<(y.Bytes.l.length:Int)
 ·rw[qr hlen,qr hx,qq hy,Hu];rfl
 rw[qr hlen,qr hx,qr hy]
 have hx:x.Bytes.l.length≤9000:=by omega
 have hy:y.Bytes.l.length≤9000:=by omega
 have hs:s.length≤9000:=by omega
 refine(show _=(Ln (GS.mk [x,y])).bind (fun x13=>
  (E1 x).bind fun x17=>
  (Bw x17 ((E1 y).bind fun x19=>some x19)).bind fun x20=>
  (if x20=true then
  (Lw x).bind fun x83=>
  (if x83.length+([10]:AG).length≤2*Bs then some (x83++[10])else none).bind fun x84=>
  (Lw y).bind fun x86=>
  (if x84.length+x86.length≤2*Bs then some (x84++x86)else none).bind fun x87=>
  (if x87.length+([10]:AG).length≤2*Bs then some (x87++[10])else none).bind fun x88=>
  (HD (!decide (x13.1=x88)) (some (!decide (x13.2=0)))).bind fun x91=>
  if x91=true then(some false).map fun r=> .inr r else some (.inl ())
  else
  (HD (!decide (x13.1=[])) (some (!decide (x13.2=1)))).bind fun x94=>
  if x94=true then(some false).map fun r=> .inr r else some (.inl ()):Option (Unit⊕Bool)).bind (a8 (fun(p21:Unit)=>restT s x y) some))from rfl).trans ?_
 rw[wU x y hx hy,aa,dY x (by omega),dY y (by omega),xG s x y hs hx,aa]
 cases hxr:QY x with
 |false=>rfl
 |true=>
  cases hyr:QY y with
  |false=>rfl
  |true=>
   have lx:=XX x hx hxr
   have ly:=XX y hy hyr
   rw[mI x hx hxr,mI y hy hyr]
   show((if(XY x).length+([10]:AG).length≤2*Bs then some (XY x++[10])else none).bind fun x84=>
    ((if x84.length+(XY y).length≤2*Bs then some (x84++XY y)else none).bind fun x87=>
    (if x87.length+([10]:AG).length≤2*Bs then some (x87++[10])else none).bind fun x88=>
    (HD (!decide (UY [XY x,XY y]=x88)) (some (!decide ((0:Int)=0)))).bind fun x91=>
    if x91=true then(some false).map fun r=> .inr r else some (.inl ()):Option (Unit⊕Bool))).bind _=_
   rw[qn (by unfold Bs;simp;omega),aa,qn (by unfold Bs;simp;omega),aa,qn (by unfold Bs;simp;omega),aa,qq (by simp[UY])]
   rfl
end
end Go.Proofs.YtobejhpigbllpaaGreatDoor.Am
