/-
  The program's reader of configurations, by its steps.
-/
import Derived.Test.YtfdkkkdbknbmaaaGreatDoorX6
set_option linter.unusedVariables false
set_option linter.unusedSimpArgs false
namespace Go.Proofs.YtfdkkkdbknbmaaaGreatDoor.Am
noncomputable section
open GS renaming l→qn
open IntKind renaming i64→tz, wrap→tx
open List renaming append_assoc→br, drop_eq_getElem_cons→da, drop_zero→dq, flatMap_cons→d5, flatMap_map→o9, getElem?_eq_getElem→ab, getElem_mem→eu, length→jd, length_append→an, length_cons→ba, map_cons→bh, map_map→j0, mem_append→cf, mem_cons_of_mem→a8, mem_cons_self→bg, mem_map→eh, mem_map_of_mem→rf, mem_singleton→ct
open List.cons renaming injEq→gr
open Nat renaming lt_of_le_of_lt→j7, not_lt_zero→mn, zero_le→dz
open Option renaming bind_some→aa
open Sum renaming elim→bd
open UInt32 renaming toNat_ofNat'→nw
section
abbrev XR:=GS At×Int×Bool
def Zq(w:Int)(r:XR):Option ((Aq×Bool)×XR):=D2 r w
theorem cZ(w:Int)(r:XR):Zq w r=(FL (decide ((r.1.l.length:Int)≤r.2.1)) ((DN r.1.l r.2.1).bind fun x=>(Ec x.Key).bind fun y=>some (!decide (y=w)))).bind fun x=>
 if x=true then some ((noF,false),r)
 else WO (DN r.1.l r.2.1) fun x _=>WO (DD x) fun y _=>if(!decide (y.2=0))=true then some ((noF,false),(r.1,r.2.1,true))else some ((y.1,true),(r.1,tx tz (r.2.1+1),r.2.2)):=rfl
def Li(w:Int)(r:XR):Option (Aq×XR):=BM r w
theorem uJ(w:Int)(r:XR):Li w r=(Zq w r).bind fun p=>(FL p.2.2.2 (some (!p.1.2))).bind fun x=>some (p.1.1,(p.2.1,p.2.2.1,x)):=rfl
def Wh(q:GS Av→AE)(s:GS Av×XR):Option ((GS Av×XR)⊕(Empty⊕(AE×XR))):=
 (Zq 12 s.2).bind fun p=>if(!p.1.2)=true then(some (q s.1,p.2)).map fun r=> .inr (.inr r)else(SS 32 s.1 [p.1.1.P]).bind fun x=>some (.inl (x,p.2))
def AbS(f:Aq)(r:XR):Option (AE×XR):=HS r f.Key
theorem eU(f:Aq)(r:XR):AbS f r=
 (Li 8 r).bind fun p=>(Li 13 p.2).bind fun q=>(Zq 9 q.2).bind fun t=>(if t.1.2=true then some (.inl t.1.1.End)else some (.inl zE):Option (AJ⊕(AE×XR))).bind (bd (fun e=>
 (Li 14 t.2).bind fun u=>(Li 15 u.2).bind fun v=>(Li 10 v.2).bind fun z=>
 (iter (Wh fun a=>⟨f.Key,p.1.Key,e,tx tz (z.1.N.toNat:Int),u.1.N,v.1.N,a⟩) (.nil,z.2)).bind (bd (fun _:Empty=>none) some)) some):=rfl
def Y0(s:GS AE×XR):Option ((GS AE×XR)⊕((GS At×Int×Bool×GS AE)⊕(AW×XR))):=
 if(!s.2.2.2)=true then(Zq 5 s.2).bind fun p=>if(!p.1.2)=true then some (.inr (.inl (p.2.1,p.2.2.1,p.2.2.2,s.1)))else(AbS p.1.1 p.2).bind fun q=>(SS 144 s.1 [q.1]).bind fun x=>some (.inl (x,q.2))
 else some (.inr (.inl (s.2.1,s.2.2.1,s.2.2.2,s.1)))
def oH(r:XR):Option (AW×XR):=HT r ()
theorem wX(r:XR):oH r=
 (Li 1 r).bind fun p=>(Li 2 p.2).bind fun q=>(Li 3 q.2).bind fun t=>
 (iter Y0 (.nil,t.2)).bind (bd (fun z=>(Li 16 (z.1,z.2.1,z.2.2.1)).bind fun u=>some (⟨p.1.Key,tx tz (q.1.N.toNat:Int),CJ (t.1.N.toNat:Int),z.2.2.2⟩,u.2)) some):=rfl
def noC:AW:=⟨zK,0,0, .nil⟩
theorem gD(s:AP):G7 s=(Dk s).bind fun x=>if(!decide (x.2=0))=true then some (noC,5)else(oH (x.1,0,false)).bind fun p=>(Gv p.1).bind fun y=>(FL p.2.2.2 (some (!decide (y.2=0)))).bind fun z=>(FL z (some (!decide (y.1=s)))).bind fun u=>if u=true then some (noC,5)else some (p.1,0):=rfl
def rr(L:GS At)(k:Nat)(b:Bool):XR:=(L,(k:Int),b)
def Bd(L:GS At):Prop:=L.l.length≤400∧ ∀p∈L.l,p.Value.length<1073741824
theorem Wl{L:GS At}(hB:Bd L){w:Int}{k:Nat}{b:Bool}(hk:k≤L.l.length):
  ∃f ok k' b',Zq w (rr L k b)=some ((f,ok),rr L k' b')∧k≤k'∧k'≤L.l.length∧(ok=true→k'=k+1):=by
 rw[cZ];unfold rr;dsimp only
 by_cases h:k<L.l.length
 ·rw[ub (by omega: ¬(L.l.length:Int)≤(k:Int)),By,ab h];have e:(FL false ((some L.l[k]).bind fun x=>(Ec x.Key).bind fun y=>some (!decide (y=w))))=some (!decide ((Fw L.l[k].Key:Int)=w)):=by
   rw[aa,R4];rfl
  rw[e,aa]
  by_cases hw:(Fw L.l[k].Key:Int)=w
  ·rw[t7 (by simp[hw]),Qw,aa,Qw,gI _ (hB.2 _ (eu h)),aa]
   by_cases h2:(Og L.l[k]).2=0
   ·rw[t7 (by simp[h2]),show(k:Int)+1=((k+1:Nat):Int) by omega,B6 (by have:=hB.1;omega)];exact⟨_,true,k+1,b,rfl,by omega,by omega,fun _=>rfl⟩
   ·rw[t6 (by simp[h2])];exact⟨_,false,k,true,rfl,by omega,by omega,fun e=>by cases e⟩
  ·rw[t6 (by simp[hw])];exact⟨_,false,k,b,rfl,by omega,by omega,fun e=>by cases e⟩
 ·rw[ua (by omega:(L.l.length:Int)≤(k:Int))];exact⟨_,false,k,b,rfl,by omega,by omega,fun e=>by cases e⟩
theorem Ky{L:GS At}(hB:Bd L){w:Int}{k:Nat}{b:Bool}(hk:k≤L.l.length):
  ∃f k' b',Li w (rr L k b)=some (f,rr L k' b')∧k≤k'∧k'≤L.l.length:=by
 obtain⟨f,ok,k',b',e,h1,h2,_⟩:=Wl (w:=w) (b:=b) hB hk;rw[uJ];rw[e,aa];cases b' with
 |true=>exact⟨f,k',true,rfl,h1,h2⟩
 |false=>exact⟨f,k',!ok,rfl,h1,h2⟩
theorem apG_n{α:Type}{bytes:Nat}{g:GS α}{x:α}(h:(g.l.length+1)*bytes≤Ci): ∃g',SS bytes g [x]=some g'∧g'.l=g.l++[x]:=by
 refine⟨.mk (g.l++[x]),?_,rfl⟩;cases g with
 |nil=>show(if _ then _ else _)=_;rw[t6 (by simpa [qn]using h)];rfl
 |mk l=>exact Zi (by simpa [qn]using h)
theorem allow_tot{L:GS At}(hB:Bd L)(q:GS Av→AE){k:Nat}{b:Bool}(hk:k≤L.l.length):
  ∃A k' b',iter (Wh q) (.nil,rr L k b)=some (.inr (q A,rr L k' b'))∧k≤k'∧k'≤L.l.length∧A.l.length≤400:=by
 have hL:=hB.1;obtain⟨r,e,A,k',b',rfl,h1,h2,h3⟩:=K0 (F:=Wh q) (fun s=>L.l.length-s.2.2.1.toNat) (fun s=> ∃n c A,s=(A,rr L n c)∧k≤n∧n≤L.l.length∧A.l.length≤n)
  (fun r=> ∃A k' b',r= .inr (q A,rr L k' b')∧k≤k'∧k'≤L.l.length∧A.l.length≤400) (by
   rintro _ ⟨n,c,A,rfl,h1,h2,h3⟩;obtain⟨f,ok,k',b',e,h4,h5,h6⟩:=Wl (w:=12) (b:=c) hB h2;unfold Wh;dsimp only;rw[e,aa];cases ok with
   |false=>exact .inr ⟨_,rfl,A,k',b',rfl,by omega,h5,by omega⟩
   |true=>
    obtain rfl:=h6 rfl;obtain⟨A',e2,e3⟩:=apG_n (bytes:=32) (g:=A) (x:=f.P) (by unfold Ci;omega);refine .inl ⟨(A',rr L (n+1) b'),?_,⟨n+1,b',A',rfl,by omega,h5,by rw[e3,an];simp;omega⟩,?_⟩
    ·dsimp only;rw[t7 (by decide),e2];rfl
    ·show L.l.length-((n+1:Nat):Int).toNat<L.l.length-((n:Nat):Int).toNat;omega) (s:=(.nil,rr L k b)) ⟨k,b, .nil,rfl,by omega,hk,dz _⟩
 exact⟨A,k',b',e,h1,h2,h3⟩
theorem peer_tot{L:GS At}(hB:Bd L)(f:Aq){k:Nat}{b:Bool}(hk:k≤L.l.length):
  ∃p k' b',AbS f (rr L k b)=some (p,rr L k' b')∧k≤k'∧k'≤L.l.length∧p.Allowed.l.length≤400:=by
 obtain⟨f1,k1,b1,e1,g1,l1⟩:=Ky (w:=8) (b:=b) hB hk;obtain⟨f2,k2,b2,e2,g2,l2⟩:=Ky (w:=13) (b:=b1) hB l1;obtain⟨f3,ok,k3,b3,e3,g3,l3,_⟩:=Wl (w:=9) (b:=b2) hB l2;obtain⟨f4,k4,b4,e4,g4,l4⟩:=Ky (w:=14) (b:=b3) hB l3;obtain⟨f5,k5,b5,e5,g5,l5⟩:=Ky (w:=15) (b:=b4) hB l4;obtain⟨f6,k6,b6,e6,g6,l6⟩:=Ky (w:=10) (b:=b5) hB l5;obtain⟨A,k7,b7,e7,g7,l7,h7⟩:=allow_tot hB (fun a=>⟨f.Key,f1.Key,if ok=true then f3.End else zE,tx tz (f6.N.toNat:Int),f4.N,f5.N,a⟩) (b:=b6) l6;refine⟨⟨f.Key,f1.Key,if ok=true then f3.End else zE,tx tz (f6.N.toNat:Int),f4.N,f5.N,A⟩,k7,b7,?_,by omega,l7,h7⟩;rw[eU];rw[e1,aa,e2,aa,e3,aa];cases ok with
 |true=>
  show((Li 14 (rr L k3 b3)).bind _)=_;rw[e4,aa,e5,aa,e6,aa];exact(ue (fun o:Option (Empty⊕(AE×XR))=>o.bind (bd (fun _:Empty=>none) some)) e7).trans rfl
 |false=>
  show((Li 14 (rr L k3 b3)).bind _)=_;rw[e4,aa,e5,aa,e6,aa];exact(ue (fun o:Option (Empty⊕(AE×XR))=>o.bind (bd (fun _:Empty=>none) some)) e7).trans rfl
theorem conf_tot{L:GS At}(hB:Bd L): ∃c k b,oH (L,0,false)=some (c,rr L k b)∧Rf c:=by
 have hL:=hB.1;obtain⟨f1,k1,b1,e1,g1,l1⟩:=Ky (L:=L) (w:=1) (k:=0) (b:=false) hB (dz _);obtain⟨f2,k2,b2,e2,g2,l2⟩:=Ky (w:=2) (b:=b1) hB l1;obtain⟨f3,k3,b3,e3,g3,l3⟩:=Ky (w:=3) (b:=b2) hB l2;obtain⟨r,e,G,k',b',rfl,h1,h2,h3⟩:=K0 (F:=Y0) (fun s=>L.l.length-s.2.2.1.toNat) (fun s=> ∃n c G,s=(G,rr L n c)∧n≤L.l.length∧G.l.length≤n∧ ∀p∈G.l,p.Allowed.l.length≤400)
  (fun r=> ∃(G:GS AE) (k':Nat) (b':Bool),r= .inl (L,(k':Int),b',G)∧k'≤L.l.length∧G.l.length≤400∧ ∀p∈G.l,p.Allowed.l.length≤400) (by
   rintro _ ⟨n,c,G,rfl,h1,h2,h3⟩;unfold Y0;cases c with
   |true=>exact .inr ⟨_,rfl,G,n,true,rfl,h1,by omega,h3⟩
   |false=>
    rw[t6 (show(!(G,rr L n false).2.2.2)=true from rfl)];obtain⟨f,ok,k',b',e,h4,h5,h6⟩:=Wl (w:=5) (b:=false) hB h1;dsimp only;rw[e,aa];cases ok with
    |false=>exact .inr ⟨_,rfl,G,k',b',rfl,h5,by omega,h3⟩
    |true=>
     obtain rfl:=h6 rfl;obtain⟨p,k7,b7,e7,g7,l7,h7⟩:=peer_tot hB f (b:=b') h5;obtain⟨G',e8,e9⟩:=apG_n (bytes:=144) (g:=G) (x:=p) (by unfold Ci;omega);refine .inl ⟨(G',rr L k7 b7),?_,⟨k7,b7,G',rfl,l7,by rw[e9,an];simp;omega,?_⟩,?_⟩
     ·dsimp only;rw[t7 (by decide),e7,aa];dsimp only;rw[e8];rfl
     ·intro x hx;rw[e9]at hx;rcases cf.1 hx with hx|hx
      ·exact h3 x hx
      ·rw[ct.1 hx];exact h7
     ·show L.l.length-((k7:Nat):Int).toNat<L.l.length-((n:Nat):Int).toNat;omega) (s:=(.nil,rr L k3 b3)) ⟨k3,b3, .nil,rfl,l3,dz _,fun p hp=>by cases hp⟩
 obtain⟨f4,k4,b4,e4,g4,l4⟩:=Ky (w:=16) (b:=b') hB h1;refine⟨⟨f1.Key,tx tz (f2.N.toNat:Int),CJ (f3.N.toNat:Int),G⟩,k4,b4,?_,h2,h3⟩;rw[wX];rw[show((L,0,false):XR)=rr L 0 false from rfl,e1,aa,e2,aa,e3,aa];refine(ue (fun o:Option ((GS At×Int×Bool×GS AE)⊕(AW×XR))=>o.bind _) e).trans ?_;show((Li 16 (rr L k' b')).bind _)=_;rw[e4];rfl
end
section
def Dr(L:GS At)(k:Nat)(fs:List Aq):Prop:=k≤L.l.length∧L.l.length≤400∧L.l.drop k=fs.map Hg∧ ∀f∈fs,oX f
theorem Dr.next{L:GS At}{k:Nat}{f:Aq}{fs:List Aq}(h:Dr L k (f::fs)):Dr L (k+1) fs∧L.l[k]? =some (Hg f)∧k<L.l.length∧oX f:=by
 obtain⟨h1,h2,h3,h4⟩:=h;have hk:k<L.l.length:=by
  have:=ue jd h3;simp at this;omega
 rw[da hk,bh,gr]at h3;exact⟨⟨by omega,h2,h3.2,fun g hg=>h4 g (a8 _ hg)⟩,by rw[ab hk,h3.1],hk,h4 f bg⟩
theorem mU{f:Aq}(h:oX f):(Fw (Hg f).Key:Int)=f.Word:=by
 obtain⟨w,h1,h2⟩:=h.word;have:(Hg f).Key=H8 w.1:=by unfold Hg;rw[h2];rfl
 rw[this,JH w h1,h2]
theorem zD{f:Aq}:(Hg f).Value.length<1073741824:=j7 (sV f) (by decide)
theorem Wm{L:GS At}{k:Nat}{b:Bool}{f:Aq}{fs:List Aq}(h:Dr L k (f::fs)){w:Int}(hw:f.Word=w):Zq w (rr L k b)=some ((f,true),rr L (k+1) b):=by
 obtain⟨_,h2,h3,h4⟩:=h.next
 have:=h.2.1;rw[cZ];unfold rr;dsimp only;rw[ub (by omega: ¬(L.l.length:Int)≤(k:Int)),By,h2];have e:(FL false ((some (Hg f)).bind fun x=>(Ec x.Key).bind fun y=>some (!decide (y=w))))=some false:=by
  rw[aa,R4,aa,mU h4,ua hw];rfl
 rw[e,aa,t7 (by decide),Qw,aa,Qw,gI _ zD,aa,rD h4,t7 (show¬(!decide ((0:Int)=0))=true by decide),show(k:Int)+1=((k+1:Nat):Int) by omega,B6 (by omega)]
theorem XT{L:GS At}{k:Nat}{b:Bool}{f:Aq}{fs:List Aq}(h:Dr L k (f::fs)){w:Int}(hw:f.Word≠w):Zq w (rr L k b)=some ((noF,false),rr L k b):=by
 obtain⟨_,h2,h3,h4⟩:=h.next
 rw[cZ];unfold rr;dsimp only;rw[ub (by omega: ¬(L.l.length:Int)≤(k:Int)),By,h2];have e:(FL false ((some (Hg f)).bind fun x=>(Ec x.Key).bind fun y=>some (!decide (y=w))))=some true:=by
  rw[aa,R4,aa,mU h4,ub hw];rfl
 rw[e,aa,t6 rfl]
theorem Gr{L:GS At}{k:Nat}{f:Aq}{fs:List Aq}(h:Dr L k (f::fs)){w:Int}(hw:f.Word=w):Li w (rr L k false)=some (f,rr L (k+1) false):=by
 rw[uJ];rw[Wm h hw,aa]
 rfl
theorem Wg(q:GS Av→AE){L:GS At}{g:Aq}{fs:List Aq}(hg:g.Word≠12): ∀(l:List Av) (k:Nat) (A:GS Av),Dr L k (l.map fP++g::fs)→A.l.length≤k→
  ∃A',iter (Wh q) (A,rr L k false)=some (.inr (q A',rr L (k+l.length) false))∧A'.l=A.l++l∧Dr L (k+l.length) (g::fs)
 |[],k,A,h,_=>by
  refine⟨A,CQ (by unfold Wh;dsimp only;rw[XT h hg];rfl),by simp,h⟩
 |p::l,k,A,h,hA=>by
  have hn:=h.next
  have:=h.2.1;obtain⟨A1,e1,e2⟩:=apG_n (bytes:=32) (g:=A) (x:=(fP p).P) (by unfold Ci;omega);obtain⟨A',e3,e4,e5⟩:=Wg q hg l (k+1) A1 hn.1 (by rw[e2,an];simp;omega);refine⟨A',?_,by rw[e4,e2,br];rfl,by rw[ba,show k+(l.length+1)=k+1+l.length by omega];exact e5⟩;rw[Fd (s':=(A1,rr L (k+1) false)) (by unfold Wh;dsimp only;rw[Wm h rfl,aa];dsimp only;rw[t7 (by decide),e1];rfl),e3,ba,show k+(l.length+1)=k+1+l.length by omega]
theorem Y8{n:Int}(h:NV n):tx tz ((Cw n).toNat:Int)=n:=by
 obtain⟨j,rfl⟩: ∃j:Nat,n=j:=⟨n.toNat,by have:=h.1;omega⟩;have:=h.2;rw[u64N (by omega),B6 (by omega)]
theorem peer_text{L:GS At}{g:Aq}{fs:List Aq}(hg:g.Word≠12){p:AE}(hp:M6 p){k:Nat}(h:Dr L k (AbI p++g::fs)):
  ∃p' k',AbS (fK 5 p.Key) (rr L k false)=some (p',rr L k' false)∧Kl p'=Kl p∧Dr L k' (g::fs)∧k<k':=by
 have ht:AbI p=fK 8 p.Psk::fN 13 1::((if p.End=noE then []else [fE p.End])++fN 14 p.Sent::fN 15 p.Got::fN 10 (Cw p.Keep)::p.Allowed.l.map fP):=by
  unfold AbI Fg ZD lH
  by_cases e:p.End=noE
  ·rw[t6 e];rfl
  ·rw[t7 e];rfl
 rw[ht]at h;have h8:=h.next
 have h13:=h8.1.next
 by_cases e:p.End=noE
 ·rw[t6 e]at h h8 h13;have h14:=h13.1.next
  have h15:=h14.1.next
  have h10:=h15.1.next
  obtain⟨A',a1,a2,a3⟩:=Wg (fun a=>⟨p.Key,p.Psk,zE,tx tz ((Cw p.Keep).toNat:Int),p.Sent,p.Got,a⟩) hg p.Allowed.l _ .nil h10.1 (dz _);refine⟨⟨p.Key,p.Psk,zE,tx tz ((Cw p.Keep).toNat:Int),p.Sent,p.Got,A'⟩,_,?_,?_,a3,by omega⟩
  ·rw[eU];rw[Gr h rfl,aa,Gr h8.1 rfl,aa,XT h13.1 (w:=9) (show(14:Int)≠9 by decide),aa];show((Li 14 (rr L _ false)).bind _)=_;rw[Gr h13.1 rfl,aa,Gr h14.1 rfl,aa,Gr h15.1 rfl,aa];exact(ue (fun o:Option (Empty⊕(AE×XR))=>o.bind (bd (fun _:Empty=>none) some)) a1).trans rfl
  ·unfold Kl;dsimp only;rw[Y8 hp.1,a2,e];rfl
 ·rw[t7 e]at h h8 h13;have h9:=h13.1.next
  have h14:=h9.1.next
  have h15:=h14.1.next
  have h10:=h15.1.next
  obtain⟨A',a1,a2,a3⟩:=Wg (fun a=>⟨p.Key,p.Psk,p.End,tx tz ((Cw p.Keep).toNat:Int),p.Sent,p.Got,a⟩) hg p.Allowed.l _ .nil h10.1 (dz _);refine⟨⟨p.Key,p.Psk,p.End,tx tz ((Cw p.Keep).toNat:Int),p.Sent,p.Got,A'⟩,_,?_,?_,a3,by omega⟩
  ·rw[eU];rw[Gr h rfl,aa,Gr h8.1 rfl,aa,Wm h13.1 (w:=9) rfl,aa];show((Li 14 (rr L _ false)).bind _)=_;rw[Gr h9.1 rfl,aa,Gr h14.1 rfl,aa,Gr h15.1 rfl,aa];exact(ue (fun o:Option (Empty⊕(AE×XR))=>o.bind (bd (fun _:Empty=>none) some)) a1).trans rfl
  ·unfold Kl;dsimp only;rw[Y8 hp.1,a2];rfl
theorem flat_hd(l:List AE): ∃g fs,l.flatMap Fg++[ON 0]=g::fs∧g.Word≠12:=by
 cases l with
 |nil=>exact⟨_,_,rfl,by decide⟩
 |cons p l=>exact⟨_,_,rfl,show(5:Int)≠12 by decide⟩
theorem eT{L:GS At}: ∀(l:List AE) (k:Nat) (G:GS AE),(∀p∈l,M6 p)→Dr L k (l.flatMap Fg++[ON 0])→G.l.length≤k→
  ∃(G':GS AE) (k':Nat),iter Y0 (G,rr L k false)=some (.inl (L,(k':Int),false,G'))∧G'.l.map Kl=G.l.map Kl++l.map Kl∧Dr L k' [ON 0]
 |[],k,G,_,h,_=>by
  refine⟨G,k,CQ ?_,by simp,h⟩;unfold Y0;rw[t6 (show(!(G,rr L k false).2.2.2)=true from rfl)];dsimp only;rw[XT h (w:=5) (by decide)];rfl
 |p::l,k,G,hp,h,hG=>by
  obtain⟨g,fs,hfs,hg⟩:=flat_hd l;have h5:Dr L k (fK 5 p.Key::(AbI p++g::fs)):=by
   rw[d5,br,hfs]at h;exact h
  have hn:=h5.next
  have:=h.2.1;obtain⟨p',k',e1,e2,e3,e4⟩:=peer_text hg (hp p bg) hn.1;obtain⟨G1,e5,e6⟩:=apG_n (bytes:=144) (g:=G) (x:=p') (by unfold Ci;omega);obtain⟨G',k2,e7,e8,e9⟩:=eT l k' G1 (fun x hx=>hp x (a8 _ hx)) (by rw[hfs];exact e3) (by rw[e6,an];simp;omega);refine⟨G',k2,?_,by rw[e8,e6];simp[e2],e9⟩;rw[Fd (s':=(G1,rr L k' false)) ?_,e7];unfold Y0;rw[t6 (show(!(G,rr L k false).2.2.2)=true from rfl)];dsimp only;rw[Wm h5 rfl,aa];dsimp only;rw[t7 (show¬(!true)=true by decide),e1,aa];dsimp only;rw[e5];rfl
theorem mark_back(m:UInt32):CJ (((Cw (m.toNat:Int)).toNat:Nat):Int)=m:=by
 have:=m.toNat_lt;rw[u64N (by omega)];apply UInt32.toNat_inj.1;unfold CJ;rw[nw];omega
theorem conf_text{L:GS At}{c:AW}(hc:FU c)(hL:L.l=(E6 c++[ON 0]).map Hg)(hn:L.l.length≤400): ∃c' k,oH (L,0,false)=some (c',rr L k false)∧Qy c'=Qy c:=by
 have h:Dr L 0 (fK 1 c.Private::fN 2 (Cw c.Port)::fN 3 (Cw (c.Mark.toNat:Int))::(c.Peers.l.flatMap Fg++[ON 0])):=by
  refine⟨dz _,hn,by rw[dq,hL];rfl,fun f hf=> ?_⟩;have:f∈E6 c++[ON 0]:=hf;rcases cf.1 this with h'|h'
  ·exact qK hc f h'
  ·rw[ct.1 h'];exact zH
 have h1:=h.next
 have h2:=h1.1.next
 have h3:=h2.1.next
 obtain⟨G',k',e1,e2,e3⟩:=eT c.Peers.l 3 .nil hc.2.2.1.1 h3.1 (dz _);refine⟨⟨c.Private,tx tz ((Cw c.Port).toNat:Int),CJ (((Cw (c.Mark.toNat:Int)).toNat:Nat):Int),G'⟩,k'+1,?_,?_⟩
 ·rw[wX];rw[show((L,0,false):XR)=rr L 0 false from rfl,Gr h rfl,aa,Gr h1.1 rfl,aa,Gr h2.1 rfl,aa];refine(ue (fun o:Option ((GS At×Int×Bool×GS AE)⊕(AW×XR))=>o.bind _) e1).trans ?_;show((Li 16 (rr L k' false)).bind _)=_;rw[Gr e3 (w:=16) rfl];rfl
 ·unfold Qy;dsimp only;rw[Y8 hc.1,mark_back,e2];rfl
end
section
end
section
end
section
theorem uW(l:List AE):Hp l=cP::(l.map Kl).map (fun x=>x.1):=by unfold Hp;rw[j0];rfl
theorem cD(l:List AE):Fz l=(l.map Kl).flatMap (fun x=>x.2.2.2.2.2.2):=by unfold Fz;rw[o9];rfl
theorem ok_nor{p q:AE}(h:Kl p=Kl q)(hp:M6 p):M6 q:=by
 have h1:p.Keep=q.Keep:=ue (fun x=>x.2.2.2.1) h;have h2:p.End=q.End:=ue (fun x=>x.2.2.1) h;have h3:p.Allowed.l=q.Allowed.l:=ue (fun x=>x.2.2.2.2.2.2) h;unfold M6 at hp ⊢
 rwa [←h1,←h2,←h3]
theorem YP{a b:AW}(h:Qy a=Qy b)(ha:FU a):FU b:=by
 have h2:a.Port=b.Port:=ue (fun x=>x.2.1) h;have h4:a.Peers.l.map Kl=b.Peers.l.map Kl:=ue (fun x=>x.2.2.2) h;have hl:a.Peers.l.length=b.Peers.l.length:=by have:=ue jd h4;simpa using this
 obtain⟨h5,h6,⟨h7,h8,h9⟩,h10⟩:=ha;refine⟨h2▸h5,by omega,⟨fun q hq=> ?_,?_,?_⟩,?_⟩
 ·have:Kl q∈a.Peers.l.map Kl:=by rw[h4];exact rf hq
  obtain⟨p,hp,e⟩:=eh.1 this;exact ok_nor e (h7 p hp)
 ·rw[uW,←h4,←uW];exact h8
 ·rw[cD,←h4,←cD];exact h9
 ·rw[cD,←h4,←cD];exact h10
theorem dO{c:AW}(h:FU c):Rf c:=by
 refine⟨by have:=h.2.1;omega,fun p hp=> ?_⟩;have:=mQ hp;have:=h.2.2.2;omega
theorem yI{c:AW}(hc:FU c): ∃g,Dk (Lh c)=some (g,0)∧g.l=(E6 c++[ON 0]).map Hg∧g.l.length≤400:=by
 have hok: ∀f∈E6 c++[ON 0],oX f:=by
  intro f hf;rcases cf.1 hf with h'|h'
  ·exact qK hc f h'
  ·rw[ct.1 h'];exact zH
 have hlen:((E6 c++[ON 0]).map Hg).length≤400:=by
  have:=Xg hc;unfold E6 Xa;simp;simp at this;omega
 obtain⟨g,e1,e2⟩:=read_of (l:=(E6 c++[ON 0]).map Hg) (by
  intro p hp;obtain⟨f,hf,rfl⟩:=eh.1 hp;exact pZ (hok f hf)) hlen
 refine⟨g,?_,e2,by rw[e2];exact hlen⟩;have:Lh c=OG (((E6 c++[ON 0]).map Hg).map Ds)++[10]:=by unfold Lh txF;rw[j0];rfl
 rw[this];exact e1
theorem Xb{c:AW}(hc:FU c): ∃c',G7 (Lh c)=some (c',0)∧Qy c'=Qy c:=by
 obtain⟨g,e1,e2,e3⟩:=yI hc;obtain⟨c',k,e4,e5⟩:=conf_text hc e2 e3;have hc':=YP e5.symm hc;refine⟨c',?_,e5⟩;rw[gD,e1,aa];show((oH (g,0,false)).bind _)=_;rw[e4,aa,Pc c' (dO hc'),t6 hc',aa];have:Lh c'=Lh c:=AaF e5;dsimp only;rw[this,ua (rfl:Lh c=Lh c)];rfl
open Classical in
theorem vG(s:AP)(hl:s.length<1073741000): ∃c e,G7 s=some (c,e)∧((e=5∧c=noC)∨(e=0∧FU c∧Lh c=s)):=by
 obtain⟨g,h,e,e1,_,_,e4⟩:=read_both s hl;rw[gD,e1,aa];rcases e4 with ⟨e5,_⟩|⟨rfl,e5,e6,e7⟩
 ·rw[t6 (by simpa using e5)];exact⟨_,_,rfl, .inl ⟨rfl,rfl⟩⟩
 have hb:yB s (g.l.map Ds):=⟨e5,fun x hx=>by
  obtain⟨p,hp,rfl⟩:=eh.1 hx;exact⟨by simp[Ds],(e7 p hp).2.2.2.1⟩⟩
 have hB:Bd g:=⟨e6,fun p hp=>by
  have:=xJ hb (Ds p) (rf hp);unfold Ds at this;rw[an,ba]at this;omega⟩
 obtain⟨c,k,b,e8,e9⟩:=conf_tot hB;show∃c e,((oH (g,0,false)).bind _)=_∧_;rw[e8,aa,Pc c e9,aa];cases b with
 |true=>exact⟨_,_,rfl, .inl ⟨rfl,rfl⟩⟩
 |false=>
  by_cases hc:FU c
  ·rw[t6 hc]
   by_cases hs:Lh c=s
   ·exact⟨c,0,by dsimp only;rw[hs,ua (rfl:s=s)];rfl, .inr ⟨rfl,hc,hs⟩⟩
   ·exact⟨noC,5,by dsimp only;rw[ub hs];rfl, .inl ⟨rfl,rfl⟩⟩
  ·rw[t7 hc];exact⟨noC,5,rfl, .inl ⟨rfl,rfl⟩⟩
def aK:Ar UInt8 32:=⟨[(1:UInt8),0,0,0,0,0,0,0,0,0,0,0,0,0,0,0,0,0,0,0,0,0,0,0,0,0,0,0,0,0,0,0],rfl⟩
def aC:AW:=⟨zK,9,0, .mk [⟨aK,zK,zE,0,0,3, .nil⟩]⟩
theorem aC_ok:FU aC:=by
 refine⟨by unfold NV;decide,by decide,⟨fun p hp=> ?_,?_,?_⟩,by decide⟩
 ·rw[ct.1 hp];exact⟨by unfold NV;decide, .inl rfl,fun i hi=>absurd hi (mn _)⟩
 ·have:cP≠aK:=fun e=>absurd (ue (fun x=>x.l) e) (by decide);show [cP,aK].Nodup;simp[this]
 ·exact List.nodup_nil
theorem text_ne{c:AW}:Lh c≠[]:=by unfold Lh;simp
open Classical in
theorem AbL{a b:AW}(h:Qy a=Qy b)(ha:FU a):Ku a b=some true:=by
 rw[same_conf a b (dO ha),ua h]
theorem P6:L2 ()=some true:=by
 obtain⟨c',e1,e2⟩:=Xb aC_ok;obtain⟨c,e,e3,e4⟩:=vG [] (by decide);have he:e=5:=by
  rcases e4 with h|h
  ·exact h.1
  ·exact absurd h.2.2 text_ne
 have hc':=YP e2.symm aC_ok;have hx:Gv aC=some (Lh aC,0):=by rw[Pc aC (dO aC_ok),t6 aC_ok]
 unfold L2;refine(ue (fun o:Option (AP×Int)=>o.bind _) hx).trans ?_;rw[aa];dsimp only;rw[e1,aa,e3,aa];have hs:Ku c' aC=some true:=AbL e2 hc';show((Cr true (some true)).bind fun x23=>(Cr x23 ((Ku c' aC).bind fun x26=>some x26)).bind fun x27=>(Cr x27 (some (decide (e=5)))).bind fun x29=>some x29)=_;rw[hs,he];rfl
open Classical in
theorem WK(c:AW):M7 c=some true:=by
 obtain⟨b,hb,hs⟩:=Aa2 c;unfold M7;rw[hb,aa];cases b with
 |true=>rw[show(FL true ((Qq c).bind fun x4=>some (!x4)))=some true from rfl,aa,t6 rfl,P6];rfl
 |false=>
  have hs:=hs rfl;rw[r34_right c hs]
  by_cases hc:FU c
  ·rw[ua hc];obtain⟨c',e1,e2⟩:=Xb hc;have hc':=YP e2.symm hc;show((Gv c).bind _)=_;rw[Pc c hs,t6 hc,aa];dsimp only;rw[e1,aa];show((Cr true (some true)).bind fun x19=>(Cr x19 ((Ku c' c).bind fun x22=>some x22)).bind fun x23=>(Cr x23 ((L2 ()).bind fun x24=>some x24)).bind fun x25=>some x25)=_;rw[AbL e2 hc',P6];rfl
  ·rw[ub hc];show((L2 ()).bind _)=_;rw[P6];rfl
end
end
end Go.Proofs.YtfdkkkdbknbmaaaGreatDoor.Am
