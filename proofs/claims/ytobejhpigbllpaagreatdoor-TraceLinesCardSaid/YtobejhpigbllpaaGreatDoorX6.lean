/-
  Plain laws: sixteen bytes as a text.
  Plain laws: endpoints and prefixes as texts; fields as pairs.
  Plain laws: what is read of texts (numbers, digits of sixteen, addresses), and that what was written is read as it was.
  Plain laws: numbers, digits of sixteen and four bytes as they are read by the program and by the reference.
  Plain laws: addresses as they are read by the program.
  Plain laws: sixteen bytes as they are read by the program; addresses; endpoints.
  Plain laws: sixteen bytes as they are read by the program; addresses; endpoints.
  Plain laws: the colon reader as a whole; addresses; endpoints as they are read.
  Plain laws: events: right ones, their texts, and that what is read is what was written (TraceLines).
  Plain laws: an event's text is read as the event (TraceLines).
  The law.
-/
import Derived.Test.YtobejhpigbllpaaGreatDoorX5
namespace Go.Proofs.YtobejhpigbllpaaGreatDoor.Am
theorem iD{n a b:Nat}(h:a≤b)(h':b≤n):PW n (some (a:Int)) (some (b:Int))=some (a,b):=by
 simp[PW,h,h']
theorem iC{n a:Nat}(h:a≤n):PW n (some (a:Int)) none=some (a,n):=by
 simp[PW,h]
theorem ofBig2(x y:UInt8): ∃v:UInt64,Lk (.mk [x,y])=some (v,0)∧v.toNat=256*x.toNat+y.toNat:=by
 have hx:=x.toNat_lt
 have hy:=y.toNat_lt
 obtain⟨z0,f0,g0⟩:=shl8 0 (by decide)
 have hx64:=Kb (m:=x.toNat) (by omega)
 have hy64:=Kb (m:=y.toNat) (by omega)
 have v1:(DA (Fy .or .u64 (z0.toNat:Int) ((DA (x.toNat:Int)).toNat:Int))).toNat=x.toNat:=by
  rw[hx64,g0,show(0:UInt64).toNat=0 from rfl,or8 (x:=0) (by decide) (by omega),Nat.mul_zero,Nat.zero_add,hx64]
 obtain⟨z1,f1,g1⟩:=shl8 (DA (Fy .or .u64 (z0.toNat:Int) ((DA (x.toNat:Int)).toNat:Int))) (by omega)
 rw[v1]at g1
 refine⟨DA (Fy .or .u64 (z1.toNat:Int) ((DA (y.toNat:Int)).toNat:Int)),?_,?_⟩
 ·unfold Lk
  rw[sized2,Option.bind_some,if_neg (by decide)]
  rw[Hk (s':=(DA (Fy .or .u64 (z0.toNat:Int) ((DA (x.toNat:Int)).toNat:Int)),1)),Hk (s':=(DA (Fy .or .u64 (z1.toNat:Int) ((DA (y.toNat:Int)).toNat:Int)),2)),Dr (b:= .inl (DA (Fy .or .u64 (z1.toNat:Int) ((DA (y.toNat:Int)).toNat:Int))))]
  ·rfl
  ·rfl
  ·dsimp only
   rw[if_pos (by simp),show Hb (GS.mk [x,y]).l 1=some y from rfl,Option.bind_some,f1]
   rfl
  ·dsimp only
   rw[if_pos (by simp),show Hb (GS.mk [x,y]).l 0=some x from rfl,Option.bind_some,f0]
   rfl
 ·rw[hy64,g1,or8 (by omega) (by omega),Kb (by omega)]
theorem two_of{l:List UInt8}{i:Nat}(h:2*i+1<l.length):(l.drop (2*i)).take (2*i+2-2*i)=[(l[2*i]?).getD 0,(l[2*i+1]?).getD 0]:=by
 rw[show 2*i+2-2*i=2 by omega,List.drop_eq_getElem_cons (show 2*i<l.length by omega),List.drop_eq_getElem_cons h,List.getElem?_eq_getElem (show 2*i<l.length by omega),List.getElem?_eq_getElem h]
 rfl
def vals(B:List UInt8):List Nat:=(List.range 8).map (xJ B)
theorem Ty(B:Ar UInt8 16): ∃G:Ar UInt16 8,Ll B=some G∧G.l.map (·.toNat)=vals B.l:=by
 have hB:=B.len
 unfold Ll
 refine aL (fun s=>8-s.1.toNat) (fun s=> ∃i:Nat,s.1=i∧i≤8∧(s.2.l.take i).map (·.toNat)=(List.range i).map (xJ B.l)) (fun r=> ∃G:Ar UInt16 8,r= .inl G∧G.l.map (·.toNat)=vals B.l) ⟨0,rfl,by omega,rfl⟩ ?_ ?_
 ·rintro⟨s,A⟩ ⟨i,rfl,hi,hA⟩
  dsimp only at hA ⊢
  by_cases hlt:i<8
  ·left
   have w1:IntKind.i64.wrap (2*(i:Int))=((2*i:Nat):Int):=by rw[show 2*(i:Int)=((2*i:Nat):Int) by omega,BF (by omega)]
   have w2:IntKind.i64.wrap (((2*i:Nat):Int)+2)=((2*i+2:Nat):Int):=by rw[show((2*i:Nat):Int)+2=((2*i+2:Nat):Int) by omega,BF (by omega)]
   obtain⟨v,e,hv⟩:=ofBig2 ((B.l[2*i]?).getD 0) ((B.l[2*i+1]?).getD 0)
   have hg:=xI B.l i
   have hv':v.toNat=xJ B.l i:=hv
   rw[if_pos (by rw[decide_eq_true_eq];omega),w1,w2,iD (by omega) (by omega),Option.bind_some]
   dsimp only
   rw[if_pos (by omega),two_of (by omega),e,Option.bind_some,CN hlt,Option.bind_some,if_pos hlt,Option.bind_some]
   refine⟨_,rfl,⟨i+1,?_,by omega,?_⟩,?_⟩
   ·dsimp only;rw[show(i:Int)+1=((i+1:Nat):Int) by omega,BF (by omega)]
   ·dsimp only
    have:((A.set i (CM (v.toNat:Int))).l.take (i+1))=A.l.take i++[CM (v.toNat:Int)]:=R5 (by rw[A.len];exact hlt) rfl
    rw[this,List.map_append,hA,List.range_succ,List.map_append,List.map_singleton,List.map_singleton,Kc (by omega),hv']
   ·dsimp only;rw[show(i:Int)+1=((i+1:Nat):Int) by omega,BF (by omega)];omega
  ·right
   rw[if_neg (by rw[decide_eq_true_eq];omega)]
   refine⟨_,rfl,A,rfl,?_⟩
   obtain rfl:i=8:=by omega
   rw[List.take_of_length_le (by rw[A.len];omega)]at hA
   exact hA
 ·rintro _ ⟨G,rfl,hG⟩
  exact⟨G,rfl,hG⟩
theorem VS(B:Ar UInt8 16): ∃G:Ar Int 8,N6 B=some G∧G.l=(vals B.l).map fun n:Nat=>(n:Int):=by
 have hB:=B.len
 unfold N6
 refine aL (fun s=>8-s.1.toNat) (fun s=> ∃i:Nat,s.1=i∧i≤8∧s.2.l.take i=((List.range i).map (xJ B.l)).map fun n:Nat=>(n:Int)) (fun r=> ∃G:Ar Int 8,r= .inl G∧G.l=(vals B.l).map fun n:Nat=>(n:Int)) ⟨0,rfl,by omega,rfl⟩ ?_ ?_
 ·rintro⟨s,A⟩ ⟨i,rfl,hi,hA⟩
  dsimp only at hA ⊢
  by_cases hlt:i<8
  ·left
   have w1:IntKind.i64.wrap (2*(i:Int))=((2*i:Nat):Int):=by rw[show 2*(i:Int)=((2*i:Nat):Int) by omega,BF (by omega)]
   have w2:IntKind.i64.wrap (((2*i:Nat):Int)+1)=((2*i+1:Nat):Int):=by rw[show((2*i:Nat):Int)+1=((2*i+1:Nat):Int) by omega,BF (by omega)]
   have h1:2*i<B.l.length:=by omega
   have h2:2*i+1<B.l.length:=by omega
   have b1:=B.l[2*i].toNat_lt
   have b2:=B.l[2*i+1].toNat_lt
   have hG:xJ B.l i=256*B.l[2*i].toNat+B.l[2*i+1].toNat:=by
    unfold xJ;rw[List.getElem?_eq_getElem h1,List.getElem?_eq_getElem h2];rfl
   have e1:IntKind.i64.wrap (IntKind.i64.wrap (256*IntKind.i64.wrap (B.l[2*i].toNat:Int))+IntKind.i64.wrap (B.l[2*i+1].toNat:Int))=(xJ B.l i:Int):=by
    rw[BF (by omega),BF (by omega),show 256*(B.l[2*i].toNat:Int)=((256*B.l[2*i].toNat:Nat):Int) by omega,BF (by omega),←Int.natCast_add,BF (by omega),hG]
   rw[if_pos (by rw[decide_eq_true_eq];omega),w1,w2,CN (by omega),Option.bind_some,List.getElem?_eq_getElem h1,Option.bind_some,CN (by omega),Option.bind_some,List.getElem?_eq_getElem h2,Option.bind_some,e1,CN hlt,Option.bind_some,if_pos hlt,Option.bind_some]
   refine⟨_,rfl,⟨i+1,?_,by omega,?_⟩,?_⟩
   ·dsimp only;rw[show(i:Int)+1=((i+1:Nat):Int) by omega,BF (by omega)]
   ·dsimp only
    have:((A.set i (xJ B.l i:Int)).l.take (i+1))=A.l.take i++[(xJ B.l i:Int)]:=R5 (by rw[A.len];exact hlt) rfl
    rw[this,hA,List.range_succ,List.map_append,List.map_append];rfl
   ·dsimp only;rw[show(i:Int)+1=((i+1:Nat):Int) by omega,BF (by omega)];omega
  ·right
   rw[if_neg (by rw[decide_eq_true_eq];omega)]
   refine⟨_,rfl,A,rfl,?_⟩
   obtain rfl:i=8:=by omega
   rw[List.take_of_length_le (by rw[A.len];omega)]at hA
   exact hA
 ·rintro _ ⟨G,rfl,hG⟩
  exact⟨G,rfl,hG⟩
def JR:List Bool→Nat→Nat→Nat→Nat→Nat×Nat
 |[],_,p,z,_=>(p,z)
 |b::l,i,p,z,w=>if b then(if z<w+1 then JR l (i+1) (i+1-(w+1)) (w+1) (w+1)else JR l (i+1) p z (w+1))else JR l (i+1) p z 0
def VM:List Bool→Nat
 |[]=>0
 |b::l=>if b then VM l+1 else 0
theorem mX: ∀l,VM l≤l.length
 |[]=>Nat.le_refl _
 |b::l=>by have:=mX l;cases b<;>simp[VM];omega
theorem mY: ∀(l:List Bool) (k:Nat),k<VM l→l[k]? =some true
 |[],k,h=>by simp[VM]at h
 |false::l,k,h=>by simp[VM]at h
 |true::l,0,_=>rfl
 |true::l,k+1,h=>by simp only[VM,if_true]at h;simpa using mY l k (by omega)
theorem dK: ∀(l:List Bool),VM l<l.length→l[VM l]? =some false
 |[],h=>by simp at h
 |false::l,_=>rfl
 |true::l,h=>by simp only[VM,if_true,List.length_cons]at h ⊢;simpa using dK l (by omega)
def N3(l:List Bool)(i:Nat):Nat:=VM (l.drop i)
def jV(l:List Bool):Nat→Nat→Nat→Nat→Nat×Nat
 |0,_,p,z=>(p,z)
 |k+1,i,p,z=>if z<N3 l i then jV l k (i+1) i (N3 l i)else jV l k (i+1) p z
theorem uS: ∀a b c d e f g h:Bool,JR [a,b,c,d,e,f,g,h] 0 0 0 0=jV [a,b,c,d,e,f,g,h] 8 0 0 0∧(JR [a,b,c,d,e,f,g,h] 0 0 0 0).1+(JR [a,b,c,d,e,f,g,h] 0 0 0 0).2≤8:=by decide+kernel
theorem eE{l:List Bool}(h:l.length=8):JR l 0 0 0 0=jV l 8 0 0 0∧(JR l 0 0 0 0).1+(JR l 0 0 0 0).2≤8:=by
 match l,h with
 |[a,b,c,d,e,f,g,h],_=>exact uS a b c d e f g h
def KL(l:List Nat):List Bool:=l.map fun n=>decide (n=0)
theorem eD(G:Ar UInt16 8):Kj G=some (((JR (KL (G.l.map (·.toNat))) 0 0 0 0).1:Int),((JR (KL (G.l.map (·.toNat))) 0 0 0 0).2:Int)):=by
 have hG:=G.len
 unfold Kj
 refine EE (fun s=>8-s.2.2.2.toNat) (fun s=> ∃p z w i:Nat,s=((p:Int),(z:Int),(w:Int),(i:Int))∧i≤8∧w≤i∧JR (KL (G.l.map (·.toNat))) 0 0 0 0=JR ((KL (G.l.map (·.toNat))).drop i) i p z w)
  (fun r=>r= .inl (((JR (KL (G.l.map (·.toNat))) 0 0 0 0).1:Int),((JR (KL (G.l.map (·.toNat))) 0 0 0 0).2:Int))) ⟨0,0,0,0,rfl,by omega,by omega,rfl⟩ ?_ ?_
 ·rintro _ ⟨p,z,w,i,rfl,hi,hw,he⟩
  dsimp only
  by_cases hlt:i<8
  ·left
   have hz:(KL (G.l.map (·.toNat))).drop i=decide (G.l[i].toNat=0)::(KL (G.l.map (·.toNat))).drop (i+1):=by
    rw[List.drop_eq_getElem_cons (by simp[KL];omega)];simp[KL]
   rw[hz,JR]at he
   rw[if_pos (by rw[decide_eq_true_eq];omega),DH,List.getElem?_eq_getElem (show i<G.l.length by omega),Option.bind_some]
   have w1:IntKind.i64.wrap ((i:Int)+1)=((i+1:Nat):Int):=by rw[show(i:Int)+1=((i+1:Nat):Int) by omega,BF (by omega)]
   have w2:IntKind.i64.wrap ((w:Int)+1)=((w+1:Nat):Int):=by rw[show(w:Int)+1=((w+1:Nat):Int) by omega,BF (by omega)]
   rw[w1,w2]
   by_cases h0:G.l[i].toNat=0
   ·rw[if_neg (by rw[h0];decide)]
    rw[if_pos (by simpa using h0)]at he
    by_cases h1:z<w+1
    ·rw[if_pos (by rw[decide_eq_true_eq];omega)]
     rw[if_pos h1]at he
     have w3:IntKind.i64.wrap (((i+1:Nat):Int)-((w+1:Nat):Int))=((i+1-(w+1):Nat):Int):=by rw[show((i+1:Nat):Int)-((w+1:Nat):Int)=((i+1-(w+1):Nat):Int) by omega,BF (by omega)]
     rw[w3]
     exact⟨_,rfl,⟨_,_,_,_,rfl,by omega,by omega,he⟩,by dsimp only;omega⟩
    ·rw[if_neg (by rw[decide_eq_true_eq];omega)]
     rw[if_neg h1]at he
     exact⟨_,rfl,⟨_,_,_,_,rfl,by omega,by omega,he⟩,by dsimp only;omega⟩
   ·rw[if_pos (by rw[show((0:UInt16).toNat:Int)=0 from rfl];simp;omega)]
    rw[if_neg (by simpa using h0)]at he
    exact⟨_,rfl,⟨p,z,0,_,rfl,by omega,by omega,he⟩,by dsimp only;omega⟩
  ·right
   rw[if_neg (by rw[decide_eq_true_eq];omega)]
   obtain rfl:i=8:=by omega
   rw[List.drop_of_length_le (by simp[KL,hG])]at he
   exact⟨_,rfl,by rw[he];rfl⟩
 ·rintro _ rfl;rfl
theorem dO(G:Ar Int 8)(l:List Nat)(hG:G.l=l.map fun n:Nat=>(n:Int))(i:Nat)(hi:i≤8):RA G (i:Int)=some (N3 (KL l) i:Int):=by
 have hl:l.length=8:=by have:=G.len;rw[hG]at this;simpa using this
 unfold RA
 have hd:((KL l).drop i).length=8-i:=by simp[KL,hl]
 have hle:N3 (KL l) i+i≤8:=by
  have:=mX ((KL l).drop i)
  unfold N3;omega
 have hall: ∀k,k<N3 (KL l) i→l[i+k]? =some 0:=by
  intro k hk
  have h2:=mY _ k hk
  rw[List.getElem?_drop]at h2
  simp only[KL,List.getElem?_map]at h2
  obtain⟨x,hx,e⟩:=Option.map_eq_some_iff.1 h2
  rw[hx];simpa using e
 have hend:i+N3 (KL l) i<8→ ∃x,l[i+N3 (KL l) i]? =some x∧x≠0:=by
  intro hlt
  have h2:=dK ((KL l).drop i) (by unfold N3 at hlt;omega)
  rw[List.getElem?_drop]at h2
  have h3:(KL l)[i+N3 (KL l) i]? =some false:=h2
  generalize N3 (KL l) i=m at h3 ⊢
  simp only[KL,List.getElem?_map]at h3
  obtain⟨x,hx,e⟩:=Option.map_eq_some_iff.1 h3
  exact⟨x,hx,by simpa using e⟩
 refine EE (fun s=>8-s.toNat) (fun s=> ∃k:Nat,s=k∧k≤N3 (KL l) i) (fun r=>r= .inl (N3 (KL l) i:Int)) ⟨0,rfl,by omega⟩ ?_ ?_
 ·rintro _ ⟨k,rfl,hk⟩
  have w1:IntKind.i64.wrap ((i:Int)+(k:Int))=((i+k:Nat):Int):=by rw[←Int.natCast_add,BF (by omega)]
  rw[w1]
  have hget: ∀x,l[i+k]? =some x→i+k<8→((Dl 8 ((i+k:Nat):Int)).bind fun x6=>(G.l[x6]?).bind fun x7=>some (decide (x7=0)))=some (decide (x=0)):=by
   intro x hx hlt
   rw[CN hlt,Option.bind_some,hG,List.getElem?_map,hx,Option.map_some,Option.bind_some]
   simp
  rcases Nat.lt_or_ge k (N3 (KL l) i)with hlt|hge
  ·left
   rw[decide_eq_true (show((i+k:Nat):Int)<8 by omega),hget 0 (hall k hlt) (by omega)]
   refine⟨((k+1:Nat):Int),?_,⟨k+1,rfl,hlt⟩,by omega⟩
   show some (Sum.inl (IntKind.i64.wrap ((k:Int)+1)))=_
   rw[show(k:Int)+1=((k+1:Nat):Int) by omega,BF (by omega)]
  ·right
   obtain rfl:k=N3 (KL l) i:=by omega
   refine⟨_,?_,rfl⟩
   rcases Nat.lt_or_ge (i+N3 (KL l) i) 8 with h8|h8
   ·obtain⟨x,hx,hne⟩:=hend h8
    rw[decide_eq_true (show((i+N3 (KL l) i:Nat):Int)<8 by omega),hget x hx h8,decide_eq_false hne]
    rfl
   ·rw[decide_eq_false (show¬((i+N3 (KL l) i:Nat):Int)<8 by omega)]
    rfl
 ·rintro _ rfl;rfl
def K3(l:List Nat):AR:=BO [58] (l.map L6)
theorem Ja(l:List Nat):(K3 l).length≤6*l.length:=by
 unfold K3
 rw[Es]
 have:=Vw (l:=l.map L6) (n:=5) (fun x hx=>by obtain⟨b,_,rfl⟩:=List.mem_map.1 hx;exact RV _)
 simp at this ⊢
 omega
theorem MK(g:GS UInt16)(hg:g.l.length≤8):L8 g=some (K3 (g.l.map (·.toNat))):=by
 unfold L8
 refine EE (fun s=>g.l.length-s.1.toNat) (fun s=> ∃i:Nat,s.1=i∧i≤g.l.length∧s.2=fN ((g.l.take i).map fun x=>L6 x.toNat)) (fun r=>r= .inl (fN (g.l.map fun x=>L6 x.toNat))) ⟨0,rfl,by omega,rfl⟩ ?_ ?_
 ·rintro⟨s,t⟩ ⟨i,rfl,hi,rfl⟩
  dsimp only
  by_cases hlt:i<g.l.length
  ·left
   rw[if_pos (by rw[decide_eq_true_eq];omega),DH,List.getElem?_eq_getElem hlt,Option.bind_some,fE,Option.bind_some,Vo (by rw[RX,List.length_map,List.length_take];unfold B4;omega),Option.bind_some]
   refine⟨_,rfl,⟨i+1,?_,by omega,?_⟩,?_⟩
   ·dsimp only;rw[show(i:Int)+1=((i+1:Nat):Int) by omega,BF (by omega)]
   ·dsimp only;rw[RX,List.take_succ_eq_append_getElem hlt,List.map_append,List.map_singleton,WE]
   ·dsimp only;rw[show(i:Int)+1=((i+1:Nat):Int) by omega,BF (by omega)];omega
  ·right
   rw[if_neg (by rw[decide_eq_true_eq];omega)]
   exact⟨_,rfl,by rw[List.take_of_length_le (by omega)]⟩
 ·rintro _ rfl
  dsimp only[Sum.elim_inl]
  have hl:=Ja (g.l.map (·.toNat))
  have he:(fN (g.l.map fun x=>L6 x.toNat)).l=(g.l.map (·.toNat)).map L6:=by rw[RX,List.map_map];rfl
  rw[List.length_map]at hl
  have hj:=Ph (fN (g.l.map fun x=>L6 x.toNat)) [58] (by rw[he];simp;omega) (by decide) (by rw[he];exact Nat.lt_of_le_of_lt hl (by omega))
  rw[hj,he];rfl
theorem OT(G:Ar Int 8)(l:List Nat)(hG:G.l=l.map fun n:Nat=>(n:Int))(hb: ∀n∈l,n<65536)(a b:Nat)(hab:a≤b)(h8:b≤8):P9 G (a:Int) (b:Int)=some (K3 ((l.take b).drop a)):=by
 have hl:l.length=8:=by have:=G.len;rw[hG]at this;simpa using this
 unfold P9
 refine EE (fun s=>b-s.2.toNat) (fun s=> ∃i:Nat,s.2=i∧a≤i∧i≤b∧s.1=K3 ((l.take i).drop a)) (fun r=>r= .inl (K3 ((l.take b).drop a))) ⟨a,rfl,by omega,hab,by rw[List.drop_of_length_le (by rw[List.length_take];omega)];rfl⟩ ?_ ?_
 ·rintro⟨t,s⟩ ⟨i,rfl,hi,hib,rfl⟩
  dsimp only
  have hln:=Ja ((l.take i).drop a)
  rw[List.length_drop,List.length_take]at hln
  by_cases hlt:i<b
  ·left
   have hil:i<l.length:=by omega
   have hgl:=RV l[i]
   rw[if_pos (by rw[decide_eq_true_eq];omega)]
   have hnext:(l.take (i+1)).drop a=(l.take i).drop a++[l[i]]:=by
    rw[List.take_succ_eq_append_getElem hil,List.drop_append_of_le_length (by rw[List.length_take];omega)]
   have hgrp:PB ((l[i]:Nat):Int)=some (L6 l[i]):=pG _ (hb _ (List.getElem_mem hil))
   have hGi:G.l[i]? =some ((l[i]:Nat):Int):=by rw[hG,List.getElem?_map,List.getElem?_eq_getElem hil];rfl
   refine⟨(K3 ((l.take (i+1)).drop a),((i+1:Nat):Int)),?_,⟨i+1,rfl,by omega,by omega,rfl⟩,by dsimp only;omega⟩
   by_cases hai:a<i
   ·rw[if_pos (by rw[decide_eq_true_eq];omega),if_pos (by simp;unfold B4;omega),Option.bind_some,Option.bind_some]
    dsimp only[Sum.elim_inl]
    rw[CN (by omega),Option.bind_some,hGi,Option.bind_some,hgrp,Option.bind_some,if_pos (by simp;unfold B4;omega),Option.bind_some,hnext]
    unfold K3
    rw[List.map_append,List.map_singleton,NI _ _ _ (by
     intro h
     have:=congrArg List.length h
     simp at this
     omega),show(i:Int)+1=((i+1:Nat):Int) by omega,BF (by omega)]
   ·rw[if_neg (by rw[decide_eq_true_eq];omega),Option.bind_some]
    dsimp only[Sum.elim_inl]
    obtain rfl:a=i:=by omega
    have hnil:K3 ((l.take a).drop a)=[]:=by rw[List.drop_of_length_le (by rw[List.length_take];omega)];rfl
    rw[hnil,CN (by omega),Option.bind_some,hGi,Option.bind_some,hgrp,Option.bind_some,if_pos (by simp;unfold B4;omega),Option.bind_some,hnext,List.drop_of_length_le (by rw[List.length_take];omega),show(a:Int)+1=((a+1:Nat):Int) by omega,BF (by omega)]
    rfl
  ·right
   rw[if_neg (by rw[decide_eq_true_eq];omega)]
   obtain rfl:i=b:=by omega
   exact⟨_,rfl,rfl⟩
 ·rintro _ rfl;rfl
def Sg(B:List UInt8):AR:=
 let v:=vals B
 let q:=JR (KL v) 0 0 0 0
 if q.2<2 then K3 v else K3 (v.take q.1)++[58,58]++K3 (v.drop (q.1+q.2))
theorem GV(B:List UInt8):(vals B).length=8:=by simp[vals]
theorem Va(B:List UInt8): ∀n∈vals B,n<65536:=fun n hn=>by
 obtain⟨i,_,rfl⟩:=List.mem_map.1 hn;exact xI B i
theorem wN(B:List UInt8):(Sg B).length≤100:=by
 unfold Sg
 dsimp only
 split
 ·have:=Ja (vals B);rw[GV]at this;omega
 ·rename_i h
  have h1:=Ja ((vals B).take (JR (KL (vals B)) 0 0 0 0).1)
  have h2:=Ja ((vals B).drop ((JR (KL (vals B)) 0 0 0 0).1+(JR (KL (vals B)) 0 0 0 0).2))
  rw[List.length_take,GV]at h1
  rw[List.length_drop,GV]at h2
  simp only[List.length_append,List.length_cons,List.length_nil]
  omega
theorem lS(B:Ar UInt8 16):NQ B=some (Sg B.l):=by
 obtain⟨G,e1,hG⟩:=Ty B
 have hGl:=G.len
 have e2:=eD G
 rw[hG]at e2
 obtain⟨_,hq⟩:=eE (l:=KL (vals B.l)) (by simp[KL,GV])
 unfold NQ Sg
 rw[e1,Option.bind_some,e2,Option.bind_some]
 dsimp only
 generalize JR (KL (vals B.l)) 0 0 0 0=q at*
 obtain⟨p,z⟩:=q
 dsimp only at*
 by_cases h:z<2
 ·rw[if_pos (by rw[decide_eq_true_eq];omega),if_pos h,if_pos (by decide),List.drop_zero,List.take_of_length_le (by omega),MK _ (by simp;omega),Lx,hG]
  rfl
 ·have hr1:=MK (.mk (G.l.take p)) (by simp;omega)
  have hr2:=MK (.mk (G.l.drop (p+z))) (by simp;omega)
  rw[Lx,List.map_take,hG]at hr1
  rw[Lx,List.map_drop,hG]at hr2
  have l1:=Ja ((vals B.l).take p)
  have l2:=Ja ((vals B.l).drop (p+z))
  rw[List.length_take,GV]at l1
  rw[List.length_drop,GV]at l2
  rw[if_neg (by rw[decide_eq_true_eq];omega),if_neg h,lW (by omega),Option.bind_some,if_pos (by omega),List.drop_zero,hr1,Option.bind_some,if_pos (by simp;unfold B4;omega),Option.bind_some,
   show(p:Int)+(z:Int)=((p+z:Nat):Int) by omega,BF (by omega),iC (by omega),Option.bind_some]
  dsimp only
  rw[if_pos (by omega),List.take_of_length_le (by rw[List.length_drop];omega),hr2,Option.bind_some,if_pos (by simp;unfold B4;omega)]
  rfl
theorem sS(B:Ar UInt8 16):RB B=some (Sg B.l):=by
 obtain⟨G,e1,hG⟩:=VS B
 obtain⟨hAB,hq⟩:=eE (l:=KL (vals B.l)) (by simp[KL,GV])
 have hv:=GV B.l
 generalize hR:jV (KL (vals B.l)) 8 0 0 0=R at*
 unfold RB
 rw[e1,Option.bind_some]
 refine EE (fun s=>8-s.2.2.toNat) (fun s=> ∃p z i:Nat,s=((p:Int),(z:Int),(i:Int))∧i≤8∧R=jV (KL (vals B.l)) (8-i) i p z)
  (fun r=>r= .inl (((JR (KL (vals B.l)) 0 0 0 0).1:Int),((JR (KL (vals B.l)) 0 0 0 0).2:Int))) ⟨0,0,0,rfl,by omega,hR.symm⟩ ?_ ?_
 ·rintro _ ⟨p,z,i,rfl,hi,he⟩
  dsimp only
  by_cases hlt:i<8
  ·left
   have w1:IntKind.i64.wrap ((i:Int)+1)=((i+1:Nat):Int):=by rw[show(i:Int)+1=((i+1:Nat):Int) by omega,BF (by omega)]
   rw[if_pos (by rw[decide_eq_true_eq];omega),dO G _ hG i (by omega),Option.bind_some,w1]
   rw[show 8-i=(8-(i+1))+1 by omega,jV]at he
   by_cases h:z<N3 (KL (vals B.l)) i
   ·rw[if_pos (by rw[decide_eq_true_eq];omega),Option.bind_some]
    rw[if_pos h]at he
    exact⟨_,rfl,⟨_,_,_,rfl,by omega,he⟩,by dsimp only;omega⟩
   ·rw[if_neg (by rw[decide_eq_true_eq];omega)]
    rw[if_neg h]at he
    exact⟨_,rfl,⟨_,_,_,rfl,by omega,he⟩,by dsimp only;omega⟩
  ·right
   rw[if_neg (by rw[decide_eq_true_eq];omega)]
   obtain rfl:i=8:=by omega
   refine⟨_,rfl,?_⟩
   rw[hAB,he];rfl
 ·rintro _ rfl
  dsimp only[Sum.elim_inl]
  unfold Sg
  dsimp only
  generalize JR (KL (vals B.l)) 0 0 0 0=q at*
  obtain⟨p,z⟩:=q
  dsimp only at*
  have l1:=Ja ((vals B.l).take p)
  have l2:=Ja ((vals B.l).drop (p+z))
  rw[List.length_take,GV]at l1
  rw[List.length_drop,GV]at l2
  have hr0:=OT G _ hG (Va B.l) 0 8 (by omega) (by omega)
  rw[List.drop_zero,List.take_of_length_le (by omega)]at hr0
  by_cases h:z<2
  ·rw[if_pos (by rw[decide_eq_true_eq];omega),if_pos h]
   exact(congrArg (fun x:Option AR=>x.bind fun y=>some y) hr0)
  ·have hr1:=OT G _ hG (Va B.l) 0 p (by omega) (by omega)
   have hr2:=OT G _ hG (Va B.l) (p+z) 8 (by omega) (by omega)
   rw[List.drop_zero]at hr1
   rw[List.take_of_length_le (show(vals B.l).length≤8 by omega)]at hr2
   rw[if_neg (by rw[decide_eq_true_eq];omega),if_neg h,show(p:Int)+(z:Int)=((p+z:Nat):Int) by omega,BF (by omega)]
   refine(congrArg (fun x:Option AR=>x.bind _) hr1).trans ?_
   rw[Option.bind_some,if_pos (by simp;unfold B4;omega),Option.bind_some]
   refine(congrArg (fun x:Option AR=>x.bind _) hr2).trans ?_
   rw[Option.bind_some,if_pos (by simp;unfold B4;omega)]
   rfl
end Go.Proofs.YtobejhpigbllpaaGreatDoor.Am
namespace Go.Proofs.YtobejhpigbllpaaGreatDoor.Am
abbrev zK:Ar UInt8 32:=(T.arr 32 T.u8).z
def HU(a:Be):AR:=if ER a=true then(if a.V=4 then Mk (a.B.l.take 4)else Sg a.B.l)else []
theorem TA(a:Be):(HU a).length≤100:=by
 unfold HU
 split
 ·split
  ·have:=SQ (a.B.l.take 4);rw[List.length_take]at this;omega
  ·exact wN _
 ·simp
theorem QN{a:Be}(h:ER a=true)(h4: ¬a.V=4):a.V=6:=by
 unfold ER at h
 rw[decide_eq_true_eq]at h
 rcases h with h|h
 ·exact h
 ·exact absurd h.1 h4
theorem rF(a:Be):Nr a=some (HU a):=by
 unfold Nr HU
 rw[Rp,Option.bind_some]
 by_cases h:ER a=true
 ·rw[h,if_neg (by decide),if_pos rfl]
  by_cases h4:a.V=4
  ·rw[if_pos (by rw[decide_eq_true_eq];exact h4),if_pos h4]
   exact congrArg (fun x:Option AR=>x.bind fun y=>some y) (pH _)
  ·rw[if_neg (by rw[decide_eq_true_eq];exact h4),if_neg h4,lS];rfl
 ·rw[if_neg h]
  have h':ER a=false:=by simpa using h
  rw[h',if_pos (by decide)]
theorem sR(a:Be):OS a=some (HU a):=by
 unfold OS HU
 rw[Y8,Option.bind_some]
 have hB:=a.B.len
 by_cases h:ER a=true
 ·rw[h,if_neg (by decide),if_pos rfl]
  by_cases h4:a.V=4
  ·rw[if_neg (by rw[decide_eq_true_eq];omega),if_pos h4]
   have g: ∀i:Nat,i<16→((Dl 16 (i:Int)).bind fun x=>a.B.l[x]?)=some ((a.B.l[i]?).getD 0):=fun i hi=>by
    rw[CN hi,Option.bind_some,List.getElem?_eq_getElem (by omega)];rfl
   have e:[(a.B.l[0]?).getD 0,(a.B.l[1]?).getD 0,(a.B.l[2]?).getD 0,(a.B.l[3]?).getD 0]=a.B.l.take 4:=by
    match hl:a.B.l,hB with
    |b0::b1::b2::b3::r,_=>rfl
   have h0:a.B.l[0]? =some ((a.B.l[0]?).getD 0):=by rw[List.getElem?_eq_getElem (by omega)];rfl
   have h1:a.B.l[1]? =some ((a.B.l[1]?).getD 0):=by rw[List.getElem?_eq_getElem (by omega)];rfl
   have h2:a.B.l[2]? =some ((a.B.l[2]?).getD 0):=by rw[List.getElem?_eq_getElem (by omega)];rfl
   have h3:a.B.l[3]? =some ((a.B.l[3]?).getD 0):=by rw[List.getElem?_eq_getElem (by omega)];rfl
   rw[show(0:Int)=((0:Nat):Int)from rfl,CN (by decide),Option.bind_some,h0,Option.bind_some,show(1:Int)=((1:Nat):Int)from rfl,CN (by decide),Option.bind_some,h1,Option.bind_some,
    show(2:Int)=((2:Nat):Int)from rfl,CN (by decide),Option.bind_some,h2,Option.bind_some,show(3:Int)=((3:Nat):Int)from rfl,CN (by decide),Option.bind_some,h3,Option.bind_some,sT]
   exact congrArg (fun l=>some (Mk l)) e
  ·rw[if_pos (by rw[decide_eq_true_eq];exact QN h h4),if_neg h4,sS];rfl
 ·rw[if_neg h]
  have h':ER a=false:=by simpa using h
  rw[h',if_pos (by decide)]
def Hc(e:AF):AR:=if Gj e=true then(if e.A.V=6 then [91]++HU e.A++[93,58]++DP e.Port.toNat else HU e.A++[58]++DP e.Port.toNat)else []
theorem Nf(e:AF):(Hc e).length≤130:=by
 have h1:=TA e.A
 have h2:=Jq e.Port.toNat
 unfold Hc
 split
 ·split<;>simp<;>omega
 ·simp
theorem Mi{e:AF}(h:Gj e=true):ER e.A=true∧1≤e.Port∧e.Port≤65535:=by
 unfold Gj at h
 simpa [Bool.and_eq_true]using h
theorem RG{p:Int}(h:0≤p)(h':p<18446744073709551616):(DA p).toNat=p.toNat:=by
 have:=Kb (m:=p.toNat) (by omega)
 rwa [Int.toNat_of_nonneg h]at this
theorem qG(e:AF):Kg e=some (Hc e):=by
 unfold Kg Hc
 have hl:=TA e.A
 have hd:=Jq e.Port.toNat
 rw[QY,Option.bind_some]
 by_cases h:Gj e=true
 ·obtain⟨hA,p1,p2⟩:=Mi h
  have hp:FK (DA e.Port)=some (DP e.Port.toNat):=by rw[NO,RG (by omega) (by omega)]
  rw[h,if_neg (by decide),if_pos rfl,hp,Option.bind_some,mC,Option.bind_some,rF]
  have hw:(32:Int)<(Zv e.A:Int)↔e.A.V=6:=by
   unfold Zv
   rw[if_pos hA]
   by_cases h4:e.A.V=4
   ·rw[if_pos h4];omega
   ·rw[if_neg h4];have:=QN hA h4;omega
  by_cases h6:e.A.V=6
  ·rw[if_pos (by rw[decide_eq_true_eq];exact hw.2 h6),if_pos h6,Option.bind_some,if_pos (by simp;unfold B4;omega),Option.bind_some,if_pos (by simp;unfold B4;omega),Option.bind_some,if_pos (by simp;unfold B4;omega)]
   rfl
  ·rw[if_neg (by rw[decide_eq_true_eq];exact fun g=>h6 (hw.1 g)),if_neg h6,Option.bind_some,if_pos (by simp;unfold B4;omega),Option.bind_some,if_pos (by simp;unfold B4;omega)]
   rfl
 ·rw[if_neg h]
  have h':Gj e=false:=by simpa using h
  rw[h',if_pos (by decide)]
theorem sQ(e:AF):OR e=some (Hc e):=by
 unfold OR Hc
 have hl:=TA e.A
 have hd:=Jq e.Port.toNat
 rw[SO,Option.bind_some]
 by_cases h:Gj e=true
 ·obtain⟨hA,p1,p2⟩:=Mi h
  have hp:Jb (DA e.Port)=some (DP e.Port.toNat):=by rw[ZM,RG (by omega) (by omega)]
  rw[h,if_neg (by decide),if_pos rfl,hp,Option.bind_some,if_pos (by simp;unfold B4;omega),Option.bind_some,sR]
  by_cases h6:e.A.V=6
  ·rw[if_pos (by rw[decide_eq_true_eq];exact h6),if_pos h6,Option.bind_some,if_pos (by simp;unfold B4;omega),Option.bind_some,if_pos (by simp;unfold B4;omega),Option.bind_some,if_pos (by simp;unfold B4;omega)]
   simp
  ·rw[if_neg (by rw[decide_eq_true_eq];exact h6),if_neg h6,Option.bind_some,if_pos (by simp;unfold B4;omega)]
   simp
 ·rw[if_neg h]
  have h':Gj e=false:=by simpa using h
  rw[h',if_pos (by decide)]
end Go.Proofs.YtobejhpigbllpaaGreatDoor.Am
namespace Go.Proofs.YtobejhpigbllpaaGreatDoor.Am
def QW(c:UInt8):Bool:=decide (48≤c.toNat∧c.toNat≤57)
def LA(n:Nat)(s:AR):Nat:=s.foldl (fun n c=>10*n+(c.toNat-48)) n
def Ft(s:AR)(m:Nat):Nat×Int:=
 if s=[]∨s.all QW=false∨(1<s.length∧s[0]? =some 48)then(0,5)else if m<LA 0 s then(0,6)else(LA 0 s,0)
theorem oD: ∀k:Fin 10,QW (UInt8.ofNat (48+k.1))=true∧(UInt8.ofNat (48+k.1)).toNat=48+k.1∧(1≤k.1→UInt8.ofNat (48+k.1)≠48):=by decide+kernel
theorem WX: ∀(k n:Nat),n<10^k→n<18446744073709551616→DP n≠[]∧(DP n).all QW=true∧LA 0 (DP n)=n∧(1≤n→(DP n)[0]? ≠some 48)∧(n<10→(DP n).length=1)
 |0,n,h,hn=>by
  obtain rfl:n=0:=by omega
  decide
 |k+1,n,h,hn=>by
  rw[bJ hn]
  by_cases h10:n<10
  ·obtain⟨d1,d2,d3⟩:=oD ⟨n,h10⟩
   rw[if_pos h10]
   refine⟨by simp,by simpa using d1,?_,fun h1=> ?_,fun _=>rfl⟩
   ·show 10*0+((UInt8.ofNat (48+n)).toNat-48)=n
    rw[d2,Nat.add_sub_cancel_left,Nat.mul_zero,Nat.zero_add]
   ·simpa using d3 h1
  ·rw[if_neg h10]
   obtain⟨i1,i2,i3,i4,_⟩:=WX k (n/10) (by rw[Nat.pow_succ]at h;omega) (by omega)
   obtain⟨d1,d2,_⟩:=oD ⟨n%10,by omega⟩
   have d2:(UInt8.ofNat (48+n%10)).toNat=48+n%10:=d2
   refine⟨by simp,by rw[List.all_append,i2];simpa using d1,?_,fun _=> ?_,fun h=>absurd h h10⟩
   ·unfold LA at i3 ⊢
    rw[List.foldl_append,i3]
    show 10*(n/10)+((UInt8.ofNat (48+n%10)).toNat-48)=n
    rw[d2];omega
   ·rw[List.getElem?_append_left (List.length_pos_iff.2 i1)]
    exact i4 (by omega)
theorem oC{n:Nat}(hn:n<18446744073709551616):DP n≠[]∧(DP n).all QW=true∧LA 0 (DP n)=n∧(1≤n→(DP n)[0]? ≠some 48)∧(n<10→(DP n).length=1):=
 WX 20 n (Nat.lt_of_lt_of_le hn (by decide)) hn
theorem PO{n m:Nat}(hn:n<18446744073709551616)(h:n≤m):Ft (DP n) m=(n,0):=by
 obtain⟨h1,h2,h3,h4,h5⟩:=oC hn
 unfold Ft
 rw[h3,if_neg,if_neg (by omega)]
 rintro(h|h|⟨hl,h0⟩)
 ·exact h1 h
 ·rw[h2]at h;cases h
 ·by_cases h10:n<10
  ·rw[h5 h10]at hl;omega
  ·exact h4 (by omega) h0
def Ji(c:UInt8):Option Nat:=if 48≤c.toNat∧c.toNat≤57 then some (c.toNat-48)else if 97≤c.toNat∧c.toNat≤102 then some (c.toNat-87)else none
def Qj:AR→Option (List UInt8)
 |[]=>some []
 |[_]=>none
 |a::b::l=>(Ji a).bind fun x=>(Ji b).bind fun y=>(Qj l).map fun r=>UInt8.ofNat (16*x+y)::r
theorem nN: ∀k:Fin 16,Ji (hd k.1)=some k.1:=by decide+kernel
theorem Tf: ∀l:List UInt8,Qj (Gr l)=some l
 |[]=>rfl
 |b::l=>by
  have h:=b.toNat_lt
  show(Ji (hd (b.toNat/16))).bind (fun x=>(Ji (hd (b.toNat%16))).bind fun y=>(Qj (Gr l)).map fun r=>UInt8.ofNat (16*x+y)::r)=_
  rw[nN ⟨b.toNat/16,by omega⟩,nN ⟨b.toNat%16,by omega⟩,Tf l]
  show some (UInt8.ofNat (16*(b.toNat/16)+b.toNat%16)::l)=_
  rw[show 16*(b.toNat/16)+b.toNat%16=b.toNat by omega,K6]
def rC(l:List UInt8):Ar UInt8 32:=if h:l.length=32 then⟨l,h⟩else zK
def Aa2(v:AR):Ar UInt8 32×Int:=match Qj v with
 |none=>(zK,5)
 |some l=>if l.length<32 then(zK,3)else if 32<l.length then(zK,4)else(rC l,0)
theorem pX(K:Ar UInt8 32):Aa2 (Gr K.l)=(K,0):=by
 unfold Aa2
 rw[Tf]
 have h:=K.len
 dsimp only
 rw[if_neg (by omega),if_neg (by omega)]
 unfold rC
 rw[dif_pos h]
def RJ(c:UInt8):UInt8:=if 65≤c.toNat∧c.toNat≤70 then UInt8.ofNat (c.toNat+32)else c
def Qa(n:Nat):AR→Option Nat
 |[]=>some n
 |c::l=>(Ji (RJ c)).bind fun v=>Qa (16*n+v) l
def cG(s:AR):Option Nat:=if 1≤s.length∧s.length≤4 then Qa 0 s else none
theorem cM: ∀(s t:AR) (n:Nat),Qa n (s++t)=(Qa n s).bind fun m=>Qa m t
 |[],t,n=>rfl
 |c::s,t,n=>by
  show(Ji (RJ c)).bind (fun v=>Qa (16*n+v) (s++t))=((Ji (RJ c)).bind fun v=>Qa (16*n+v) s).bind _
  cases Ji (RJ c)with
  |none=>rfl
  |some v=>exact cM s t _
theorem mP: ∀k:Fin 16,Ji (RJ (hd k.1))=some k.1:=by decide+kernel
theorem KC: ∀k:Fin 16,hd k.1≠58∧hd k.1≠47∧hd k.1≠32∧hd k.1≠93∧hd k.1≠91∧hd k.1≠46:=by decide+kernel
theorem Tj: ∀(k n:Nat),n<16^k→n<65536→1≤(L6 n).length∧((L6 n).length≤k∨(k=0∧(L6 n).length≤1))∧Qa 0 (L6 n)=some n
 |0,n,h,hn=>by
  obtain rfl:n=0:=by omega
  decide
 |k+1,n,h,hn=>by
  rw[WB hn]
  by_cases h16:n<16
  ·rw[if_pos h16]
   refine⟨by simp, .inl (by simp),?_⟩
   show(Ji (RJ (hd n))).bind (fun v=>Qa (16*0+v) [])=_
   rw[mP ⟨n,h16⟩];simp[Qa]
  ·rw[if_neg h16]
   obtain⟨i1,i2,i3⟩:=Tj k (n/16) (by rw[Nat.pow_succ]at h;omega) (by omega)
   refine⟨by simp, .inl ?_,?_⟩
   ·rcases i2 with i2|⟨rfl,i2⟩
    ·simpa using i2
    ·simp at h;omega
   ·rw[cM,i3]
    show(Ji (RJ (hd (n%16)))).bind (fun v=>Qa (16*(n/16)+v) [])=_
    rw[mP ⟨n%16,by omega⟩]
    show some (16*(n/16)+n%16)=_
    rw[show 16*(n/16)+n%16=n by omega]
theorem zI{n:Nat}(h:n<65536):cG (L6 n)=some n:=by
 obtain⟨h1,h2,h3⟩:=Tj 4 n (by omega) h
 unfold cG
 rw[if_pos ⟨h1,by omega⟩,h3]
theorem WC: ∀(k n:Nat) (c:UInt8),c∈RW k n→ ∃j:Fin 16,c=hd j.1
 |0,_,c,h=>by simp[RW]at h
 |k+1,n,c,h=>by
  rw[RW]at h
  split at h
  ·rename_i hn
   exact⟨⟨n,hn⟩,by simpa using h⟩
  ·rcases List.mem_append.1 h with h|h
   ·exact WC k _ c h
   ·exact⟨⟨n%16,by omega⟩,by simpa using h⟩
theorem aQ{n:Nat}{c:UInt8}(hc: ∀j:Fin 16,hd j.1≠c):c∉L6 n:=fun h=>by
 obtain⟨j,e⟩:=WC 5 n c h
 exact hc j e.symm
theorem Vj{n:Nat}{c:UInt8}(hn:n<18446744073709551616)(hc:QW c=false):c∉DP n:=fun h=>by
 have:=List.all_eq_true.1 (oC hn).2.1 c h
 rw[hc]at this;cases this
theorem EQ{c:UInt8}: ∀{l:List AR},l≠[]→(∀x∈l,c∉x)→Bq c (BO [c] l)=l
 |[],h,_=>absurd rfl h
 |[x],_,h=>IF fun y hy e=>h x (by simp) (e▸hy)
 |x::y::r,_,h=>by
  show Bq c (x++[c]++BO [c] (y::r))=_
  rw[List.append_assoc,List.singleton_append,HB (fun z hz (e:z=c)=>h x (by simp) (by rw[←e];exact hz)),EQ (by simp) fun z hz=>h z (List.mem_cons_of_mem _ hz)]
theorem W3{sep:AR}{c:UInt8}(hs:c∉sep): ∀{l:List AR},(∀x∈l,c∉x)→c∉BO sep l
 |[],_=>by simp[BO]
 |[x],h=>by simpa [BO]using h
 |x::y::r,h=>by
  show c∉x++sep++BO sep (y::r)
  simp only[List.mem_append,not_or]
  exact⟨⟨h x (by simp),hs⟩,W3 hs fun z hz=>h z (List.mem_cons_of_mem _ hz)⟩
def LW:List AR→Int
 |[]=>0
 |x::l=>if(Ft x 255).2=0 then LW l else(Ft x 255).2
def zero4:List UInt8:=[0,0,0,0]
def Em(s:AR):List UInt8×Int:=
 if(Bq 46 s).length=4 then(if LW (Bq 46 s)=0 then((Bq 46 s).map fun x=>UInt8.ofNat (Ft x 255).1,0)else(zero4,LW (Bq 46 s)))else(zero4,5)
theorem Zf: ∀l:List UInt8,LW (l.map fun b=>DP b.toNat)=0
 |[]=>rfl
 |b::l=>by
  have h:=b.toNat_lt
  show(if(Ft (DP b.toNat) 255).2=0 then LW (l.map fun b=>DP b.toNat)else _)=0
  rw[PO (by omega) (by omega),if_pos rfl,Zf l]
theorem dP{B:List UInt8}(h:B.length=4):Em (Mk B)=(B,0):=by
 have hs:Bq 46 (Mk B)=B.map fun b=>DP b.toNat:=EQ (fun e=>by rw[List.map_eq_nil_iff]at e;subst e;cases h) fun x hx=>by
  obtain⟨b,_,rfl⟩:=List.mem_map.1 hx
  exact Vj (by have:=b.toNat_lt;omega) (by decide)
 unfold Em
 rw[hs,List.length_map,if_pos h,Zf,if_pos rfl,List.map_map]
 have:(fun x=>UInt8.ofNat (Ft x 255).1)∘(fun b:UInt8=>DP b.toNat)=id:=by
  funext b
  have:=b.toNat_lt
  show UInt8.ofNat (Ft (DP b.toNat) 255).1=b
  rw[PO (by omega) (by omega),K6]
 rw[this,List.map_id]
def H9:AR→Option (AR×AR)
 |[]=>none
 |[_]=>none
 |a::b::r=>if a=58∧b=58 then some ([],r)else(H9 (b::r)).map fun p=>(a::p.1,p.2)
def E6(last:Bool):List AR→Option (List Nat)
 |[]=>some []
 |x::r=>match cG x with
  |some n=>(E6 last r).map fun l=>n::l
  |none=>if r=[]∧last=true∧(Em x).2=0 then some [256*((Em x).1.getD 0 0).toNat+((Em x).1.getD 1 0).toNat,256*((Em x).1.getD 2 0).toNat+((Em x).1.getD 3 0).toNat]else none
def Oz(last:Bool)(s:AR):Option (List Nat):=if s=[]then some []else E6 last (Bq 58 s)
def T5(l:List Nat):List UInt8:=l.flatMap fun n=>[UInt8.ofNat (n/256),UInt8.ofNat (n%256)]
def hX(s:AR):Option (List UInt8):=
 match H9 s with
 |none=>(Oz true s).bind fun l=>if l.length=8 then some (T5 l)else none
 |some (a,b)=>(Oz false a).bind fun l=>(Oz true b).bind fun m=>if l.length+m.length≤7 then some (T5 (l++List.replicate (8-l.length-m.length) 0++m))else none
theorem YP(last:Bool): ∀{l:List Nat},(∀n∈l,n<65536)→E6 last (l.map L6)=some l
 |[],_=>rfl
 |n::l,h=>by
  rw[List.map_cons,E6,zI (h n (by simp)),YP last fun m hm=>h m (List.mem_cons_of_mem _ hm)]
  rfl
theorem kR(n:Nat)(h:n<65536):L6 n≠[]:=fun e=>by
 have:=(Tj 4 n (by omega) h).1
 rw[e]at this;simp at this
theorem QM{l:List Nat}(hl:l≠[]):Bq 58 (K3 l)=l.map L6:=
 EQ (by simpa using hl) fun x hx=>by
  obtain⟨n,_,rfl⟩:=List.mem_map.1 hx
  exact aQ fun j=>(KC j).1
theorem dL{l:List Nat}(h: ∀n∈l,n<65536):K3 l=[]↔l=[]:=by
 constructor
 ·intro e
  cases l with
  |nil=>rfl
  |cons n l=>
   have:=QM (l:=n::l) (by simp)
   rw[e]at this
   have e2:=(List.cons.inj this).1
   exact absurd e2.symm (kR n (h n (by simp)))
 ·rintro rfl;rfl
theorem QR(last:Bool){l:List Nat}(h: ∀n∈l,n<65536):Oz last (K3 l)=some l:=by
 unfold Oz
 by_cases e:l=[]
 ·subst e;rfl
 ·rw[if_neg (fun x=>e ((dL h).1 x)),QM e,YP last h]
def Flat(s:AR):Prop:=H9 s=none∧ ∀m,s≠m++[58]
theorem YR: ∀{s:AR} (r:AR),Flat s→H9 (s++58::58::r)=some (s,r)
 |[],r,_=>by simp[H9]
 |[a],r,⟨_,h⟩=>by
  have ha:a≠58:=fun e=>h [] (by rw[e];rfl)
  show(if a=58∧(58:UInt8)=58 then _ else(H9 (58::58::r)).map fun p=>(a::p.1,p.2))=_
  rw[if_neg (fun e=>ha e.1)]
  simp[H9]
 |a::b::s,r,⟨h1,h2⟩=>by
  rw[H9]at h1
  by_cases hc:a=58∧b=58
  ·rw[if_pos hc]at h1;cases h1
  ·rw[if_neg hc]at h1
   have ih:=YR (s:=b::s) r ⟨by simpa using h1,fun m e=>h2 (a::m) (by rw[e];rfl)⟩
   show(if a=58∧b=58 then _ else(H9 ((b::s)++58::58::r)).map fun p=>(a::p.1,p.2))=_
   rw[if_neg hc,ih]
   rfl
theorem PL: ∀{s:AR},(58:UInt8)∉s→Flat s
 |[],_=>⟨rfl,fun m e=>by simp at e⟩
 |[a],h=>⟨rfl,fun m e=>by
   rcases List.append_eq_singleton_iff.1 e.symm with ⟨_,e⟩|⟨_,e⟩
   ·exact h (by rw[List.cons.inj e |>.1];simp)
   ·cases e⟩
 |a::b::s,h=>by
  have ih:=PL (s:=b::s) (fun x=>h (List.mem_cons_of_mem _ x))
  refine⟨?_,fun m e=> ?_⟩
  ·rw[H9,if_neg (fun e=>h (by simp[e.1])),ih.1];rfl
  ·exact h (by rw[e];simp)
theorem qO{x s:AR}(hx:(58:UInt8)∉x)(hx0:x≠[])(hs:Flat s)(hs0:s≠[])(hh:s.head?≠some 58):Flat (x++58::s):=by
 induction x with
 |nil=>exact absurd rfl hx0
 |cons a x ih=>
  have ha:a≠58:=fun e=>hx (by simp[e])
  by_cases hx1:x=[]
  ·subst hx1
   obtain⟨b,t,rfl⟩:=List.exists_cons_of_ne_nil hs0
   have hb:b≠58:=fun e=>hh (by simp[e])
   refine⟨?_,fun m e=> ?_⟩
   ·show H9 (a::58::b::t)=none
    rw[H9,if_neg (fun e=>ha e.1),H9,if_neg (fun e=>hb e.2),hs.1];rfl
   ·rcases m with _|⟨c,_|⟨d,m⟩⟩
    ·simp at e
    ·simp at e
    ·simp at e
     exact hs.2 m (by simp[e])
  ·have i:=ih (fun h=>hx (List.mem_cons_of_mem _ h)) hx1
   obtain⟨b,t,rfl⟩:=List.exists_cons_of_ne_nil hx1
   refine⟨?_,fun m e=> ?_⟩
   ·show H9 (a::b::(t++58::s))=none
    have:=i.1
    rw[H9,if_neg (fun e=>ha e.1)]
    rw[List.cons_append]at this
    rw[this];rfl
   ·rcases m with _|⟨c,m⟩
    ·simp at e
    ·simp only[List.cons_append,List.cons.injEq]at e
     exact i.2 m (by rw[List.cons_append];exact e.2)
theorem SM: ∀{l:List Nat},(∀n∈l,n<65536)→Flat (K3 l)
 |[],_=>PL (by simp[K3,BO])
 |[n],_=>PL (by simpa [K3,BO]using aQ fun j=>(KC j).1)
 |n::m::r,h=>by
  have hn:=h n (by simp)
  have ht: ∀k∈m::r,k<65536:=fun k hk=>h k (List.mem_cons_of_mem _ hk)
  have e:K3 (n::m::r)=L6 n++58::K3 (m::r):=by simp[K3,BO]
  rw[e]
  have h0:K3 (m::r)≠[]:=fun x=>by have:=(dL ht).1 x;cases this
  refine qO (aQ fun j=>(KC j).1) (kR n hn) (SM ht) h0 fun hh=> ?_
  have hs:=QM (l:=m::r) (by simp)
  obtain⟨b,t,e2⟩:=List.exists_cons_of_ne_nil h0
  rw[e2]at hh hs
  have:b=58:=by simpa using hh
  subst this
  rw[Bq,if_pos rfl]at hs
  exact kR m (ht m (by simp)) (List.cons.inj hs).1.symm
theorem Us{B:List UInt8}(h:B.length=16):T5 (vals B)=B:=by
 match B,h with
 |[b0,b1,b2,b3,b4,b5,b6,b7,b8,b9,b10,b11,b12,b13,b14,b15],_=>
  have key: ∀x y:UInt8,[UInt8.ofNat ((256*x.toNat+y.toNat)/256),UInt8.ofNat ((256*x.toNat+y.toNat)%256)]=[x,y]:=fun x y=>by
   have hx:=x.toNat_lt
   have hy:=y.toNat_lt
   rw[show(256*x.toNat+y.toNat)/256=x.toNat by omega,show(256*x.toNat+y.toNat)%256=y.toNat by omega,K6,K6]
  show [UInt8.ofNat ((256*b0.toNat+b1.toNat)/256),UInt8.ofNat ((256*b0.toNat+b1.toNat)%256)]++([UInt8.ofNat ((256*b2.toNat+b3.toNat)/256),UInt8.ofNat ((256*b2.toNat+b3.toNat)%256)]++([UInt8.ofNat ((256*b4.toNat+b5.toNat)/256),UInt8.ofNat ((256*b4.toNat+b5.toNat)%256)]++([UInt8.ofNat ((256*b6.toNat+b7.toNat)/256),UInt8.ofNat ((256*b6.toNat+b7.toNat)%256)]++([UInt8.ofNat ((256*b8.toNat+b9.toNat)/256),UInt8.ofNat ((256*b8.toNat+b9.toNat)%256)]++([UInt8.ofNat ((256*b10.toNat+b11.toNat)/256),UInt8.ofNat ((256*b10.toNat+b11.toNat)%256)]++([UInt8.ofNat ((256*b12.toNat+b13.toNat)/256),UInt8.ofNat ((256*b12.toNat+b13.toNat)%256)]++([UInt8.ofNat ((256*b14.toNat+b15.toNat)/256),UInt8.ofNat ((256*b14.toNat+b15.toNat)%256)]++[])))))))=_
  rw[key,key,key,key,key,key,key,key]
  rfl
def dJ(l:List Bool)(p:Nat×Nat):Bool:=decide (p.1+p.2≤8)&&(List.range p.2).all fun k=>l.getD (p.1+k) false
theorem zX: ∀a b c d e f g h:Bool,dJ [a,b,c,d,e,f,g,h] (JR [a,b,c,d,e,f,g,h] 0 0 0 0)=true:=by decide+kernel
theorem uR{l:List Bool}(h:l.length=8):dJ l (JR l 0 0 0 0)=true:=by
 match l,h with
 |[a,b,c,d,e,f,g,k],_=>exact zX a b c d e f g k
theorem qP{v:List Nat}(hv:v.length=8){p z:Nat}(h:dJ (KL v) (p,z)=true):v.take p++List.replicate z 0++v.drop (p+z)=v:=by
 unfold dJ at h
 simp only[Bool.and_eq_true,decide_eq_true_eq,List.all_eq_true,List.mem_range]at h
 obtain⟨h1,h2⟩:=h
 have hz:(v.drop p).take z=List.replicate z 0:=by
  apply List.ext_getElem
  ·simp;omega
  ·intro i hi hj
   have hi':i<z:=by simp at hj;exact hj
   have:=h2 i hi'
   rw[List.getElem_replicate,List.getElem_take,List.getElem_drop]
   unfold KL at this
   rw[List.getD_eq_getElem?_getD,List.getElem?_map,List.getElem?_eq_getElem (by omega)]at this
   simpa using this
 rw[←hz,List.append_assoc,←List.drop_drop,List.take_append_drop,List.take_append_drop]
theorem qY{B:List UInt8}(h:B.length=16):hX (Sg B)=some B:=by
 have hv:=GV B
 have hlt:=Va B
 have hr:=uR (l:=KL (vals B)) (by simp[KL,hv])
 unfold Sg
 dsimp only
 generalize JR (KL (vals B)) 0 0 0 0=q at hr ⊢
 obtain⟨p,z⟩:=q
 by_cases hz:z<2
 ·rw[if_pos hz]
  unfold hX
  rw[(SM hlt).1]
  dsimp only
  rw[QR true hlt,Option.bind_some,if_pos hv,Us h]
 ·rw[if_neg hz]
  have ha: ∀n∈(vals B).take p,n<65536:=fun n hn=>hlt n (List.mem_of_mem_take hn)
  have hb: ∀n∈(vals B).drop (p+z),n<65536:=fun n hn=>hlt n (List.mem_of_mem_drop hn)
  have hpz:p+z≤8:=by
   unfold dJ at hr
   simp only[Bool.and_eq_true,decide_eq_true_eq]at hr
   exact hr.1
  unfold hX
  rw[List.append_assoc,show([58,58]:AR)++K3 ((vals B).drop (p+z))=58::58::K3 ((vals B).drop (p+z))from rfl,YR _ (SM ha)]
  dsimp only
  rw[QR false ha,Option.bind_some,QR true hb,Option.bind_some,if_pos (by rw[List.length_take,List.length_drop];omega)]
  have e:8-((vals B).take p).length-((vals B).drop (p+z)).length=z:=by rw[List.length_take,List.length_drop];omega
  rw[e,qP hv hr,Us h]
def iG(l:List UInt8):Ar UInt8 16:=if h:l.length=16 then⟨l,h⟩else⟨List.replicate 16 0,rfl⟩
def zA:Be:=⟨0,⟨List.replicate 16 0,rfl⟩⟩
def S1(s:AR):Be×Int:=
 if(58:UInt8)∈s then(match hX s with|some l=>(⟨6,iG l⟩,0)|none=>(zA,5))
 else if(Em s).2=0 then(⟨4,iG ((Em s).1++List.replicate 12 0)⟩,0)else(zA,(Em s).2)
theorem VW{c:UInt8}(h:QW c=false)(h46:c≠46)(B:List UInt8):c∉Mk B:=
 W3 (by simpa using h46) fun x hx=>by
  obtain⟨b,_,rfl⟩:=List.mem_map.1 hx
  exact Vj (by have:=b.toNat_lt;omega) h
theorem ZI{c:UInt8}(h: ∀j:Fin 16,hd j.1≠c)(h58:c≠58)(l:List Nat):c∉K3 l:=
 W3 (by simpa using h58) fun x hx=>by
  obtain⟨n,_,rfl⟩:=List.mem_map.1 hx
  exact aQ h
theorem colT_no{c:UInt8}(h: ∀j:Fin 16,hd j.1≠c)(h58:c≠58)(B:List UInt8):c∉Sg B:=by
 unfold Sg
 dsimp only
 split
 ·exact ZI h h58 _
 ·simp only[List.mem_append,not_or,List.mem_cons,List.not_mem_nil,or_false]
  exact⟨⟨ZI h h58 _,⟨h58,h58⟩⟩,ZI h h58 _⟩
theorem hQ(B:List UInt8):(58:UInt8)∈Sg B:=by
 unfold Sg
 dsimp only
 split
 ·have hv:=GV B
  match vals B,hv with
  |a::b::r,_=>simp[K3,BO]
 ·simp
theorem oL{B:Ar UInt8 16}:iG B.l=B:=by unfold iG;rw[dif_pos B.len]
theorem iI{a:Be}(h:ER a=true):S1 (HU a)=(a,0):=by
 unfold HU
 rw[if_pos h]
 by_cases h4:a.V=4
 ·have hl:(a.B.l.take 4).length=4:=by rw[List.length_take,a.B.len];rfl
  have hd:a.B.l.drop 4=List.replicate 12 0:=by
   unfold ER at h
   rw[decide_eq_true_eq]at h
   rcases h with h|h
   ·rw[h4]at h;cases h
   ·exact h.2
  unfold S1
  rw[if_pos h4,if_neg (VW (by decide) (by decide) _),dP hl,if_pos rfl]
  dsimp only
  rw[←hd,List.take_append_drop,oL,←h4]
 ·have h6:=QN h h4
  unfold S1
  rw[if_neg h4,if_pos (hQ _),qY a.B.len]
  dsimp only
  rw[oL,←h6]
theorem Xn{c:UInt8}(hd':QW c=false)(h46:c≠46)(h: ∀j:Fin 16,hd j.1≠c)(h58:c≠58)(a:Be):c∉HU a:=by
 unfold HU
 split
 ·split
  ·exact VW hd' h46 _
  ·exact colT_no h h58 _
 ·simp
def UP(c:UInt8)(s:AR):AR×AR×Bool:=if c∈s then(s.takeWhile (fun x=>x != c),(s.dropWhile (fun x=>x != c)).drop 1,true)else(s,[],false)
theorem gZ{c:UInt8}{p q:AR}(h:c∉p):UP c (p++c::q)=(p,q,true):=by
 unfold UP
 have h1: ∀x∈p,(x != c)=true:=fun x hx=>by simp;rintro rfl;exact h hx
 rw[if_pos (by simp),List.takeWhile_append_of_pos h1,List.dropWhile_append_of_pos h1]
 simp
def Rl:AR→Option (AR×AR)
 |[]=>none
 |[_]=>none
 |a::b::r=>if a=93∧b=58 then some ([],r)else(Rl (b::r)).map fun p=>(a::p.1,p.2)
theorem hE: ∀{s:AR} (r:AR),(93:UInt8)∉s→Rl (s++93::58::r)=some (s,r)
 |[],r,_=>by simp[Rl]
 |[a],r,h=>by
  have ha:a≠93:=fun e=>h (by simp[e])
  show(if a=93∧(93:UInt8)=58 then _ else(Rl (93::58::r)).map fun p=>(a::p.1,p.2))=_
  rw[if_neg (fun e=>ha e.1)]
  simp[Rl]
 |a::b::s,r,h=>by
  have ha:a≠93:=fun e=>h (by simp[e])
  have ih:=hE (s:=b::s) r (fun x=>h (List.mem_cons_of_mem _ x))
  show(if a=93∧b=58 then _ else(Rl ((b::s)++93::58::r)).map fun p=>(a::p.1,p.2))=_
  rw[if_neg (fun e=>ha e.1),ih]
  rfl
def TV(s:AR):Option (AR×AR):=
 if s.head?=some 91 then(Rl (s.drop 1)).bind fun p=>if(58:UInt8)∈p.1 then some p else none
 else if(58:UInt8)∈s then some ((UP 58 s).1,(UP 58 s).2.1)else none
def Gm:AF:=⟨zA,0⟩
def nM(s:AR):AF×Int:=
 match TV s with
 |none=>(Gm,5)
 |some (h,p)=>if(S1 h).2=0 then(if(Ft p 65535).2=0 then(if(Ft p 65535).1=0 then(Gm,6)else(⟨(S1 h).1,(Ft p 65535).1⟩,0))else(Gm,(Ft p 65535).2))else(Gm,(S1 h).2)
theorem fD{e:AF}(h:Gj e=true):nM (Hc e)=(e,0):=by
 obtain⟨h1,h2,h3⟩:=Mi h
 have hp:Ft (DP e.Port.toNat) 65535=(e.Port.toNat,0):=PO (by omega) (by omega)
 have e2:((e.Port.toNat:Nat):Int)=e.Port:=by omega
 have hh:TV (Hc e)=some (HU e.A,DP e.Port.toNat):=by
  unfold Hc
  rw[if_pos h]
  by_cases h6:e.A.V=6
  ·rw[if_pos h6]
   have ec:HU e.A=Sg e.A.B.l:=by
    unfold HU
    rw[if_pos h1,if_neg (by rw[h6];decide)]
   show TV (91::(HU e.A++[93,58]++DP e.Port.toNat))=_
   unfold TV
   rw[List.append_assoc,show([93,58]:AR)++DP e.Port.toNat=93::58::DP e.Port.toNat from rfl,List.head?_cons,if_pos rfl,List.drop_one,List.tail_cons,hE _ (Xn (by decide) (by decide) (fun j=>(KC j).2.2.2.1) (by decide) _),Option.bind_some,if_pos (by rw[ec];exact hQ _)]
  ·rw[if_neg h6]
   have h4:e.A.V=4:=by
    unfold ER at h1
    rw[decide_eq_true_eq]at h1
    rcases h1 with h1|h1
    ·exact absurd h1 h6
    ·exact h1.1
   have ea:HU e.A=Mk (e.A.B.l.take 4):=by
    unfold HU
    rw[if_pos h1,if_pos h4]
   have hno:(58:UInt8)∉HU e.A:=by rw[ea];exact VW (by decide) (by decide) _
   have h91:(91:UInt8)∉HU e.A:=Xn (by decide) (by decide) (fun j=>(KC j).2.2.2.2.1) (by decide) _
   have e3:HU e.A++[58]++DP e.Port.toNat=HU e.A++58::DP e.Port.toNat:=by simp
   rw[e3]
   have key: ∀s:AR,s.head?≠some 91→TV s=if(58:UInt8)∈s then some ((UP 58 s).1,(UP 58 s).2.1)else none:=by
    intro s hs
    unfold TV
    rw[if_neg hs]
   rw[key,if_pos (by simp),gZ hno]
   cases hq:HU e.A with
   |nil=>simp
   |cons a r=>
    rw[hq]at h91
    simp only[List.cons_append,List.head?_cons,ne_eq,Option.some.injEq]
    rintro rfl
    simp at h91
 unfold nM
 rw[hh]
 dsimp only
 rw[iI h1,hp]
 dsimp only
 rw[if_pos rfl,if_pos rfl,if_neg (by omega),e2]
end Go.Proofs.YtobejhpigbllpaaGreatDoor.Am
namespace Go.Proofs.YtobejhpigbllpaaGreatDoor.Am
theorem Yx(n:Nat)(c:UInt8)(s:AR):LA n (c::s)=LA (10*n+(c.toNat-48)) s:=by unfold LA;rw[List.foldl_cons]
theorem xR(s:AR): ∀n:Nat,n≤LA n s:=by
 induction s with
 |nil=>exact fun n=>Nat.le_refl n
 |cons c s ih=>
  intro n
  have h:=ih (10*n+(c.toNat-48))
  rw[Yx]
  exact Nat.le_trans (by omega) h
theorem Wb(M:Nat)(hM:M=18446744073709551615): ∀(s:AR) (n:Nat),n≤M→s.all QW=true→Lib.parseUintM M n s=if M<LA n s then .range else .ok (LA n s)
 |[],n,hn,_=>by
  rw[Lib.parseUintM,show LA n []=n from rfl,if_neg (by omega)]
 |c::s,n,hn,h=>by
  simp only[List.all_cons,Bool.and_eq_true]at h
  have hc:48≤c.toNat∧c.toNat≤57:=by simpa [QW]using h.1
  have hg:=xR s (10*n+(c.toNat-48))
  rw[Lib.parseUintM,if_pos hc,Yx]
  by_cases h1:1844674407370955162≤n
  ·rw[if_pos h1,if_pos (by omega)]
  ·rw[if_neg h1]
   by_cases h2:M<n*10+(c.toNat-48)
   ·rw[if_pos h2,if_pos (by omega)]
   ·rw[if_neg h2,show n*10+(c.toNat-48)=10*n+(c.toNat-48) by omega,Wb M hM s _ (by omega) h.2]
theorem jJ{s:AR}(h0:s≠[])(h:s.all QW=true):Gk s=if 18446744073709551615<LA 0 s then(18446744073709551615,true)else(LA 0 s,false):=by
 unfold Gk Lib.parseUintB
 rw[if_neg h0,Wb _ (by decide) s 0 (Nat.zero_le _) h]
 have e:(2^64-1:Nat)=18446744073709551615:=by decide
 rw[e]
 by_cases hv:18446744073709551615<LA 0 s
 ·rw[if_pos hv,if_pos hv]
 ·rw[if_neg hv,if_neg hv]
theorem Yu{s:AR}{i:Nat}(h:i<s.length):(s.take (i+1)).all QW=((s.take i).all QW&&QW s[i]):=by
 rw[List.take_succ_eq_append_getElem h,List.all_append];simp
theorem lQ(s:AR)(hl:s.length<4611686018427387904): ∃k:Nat,Jr s=some (k:Int)∧k≤s.length∧(k<s.length↔s.all QW=false):=by
 unfold Jr
 obtain⟨r,e,hr⟩: ∃r:Unit⊕Int,iter (fun(s1:Nat)=>if s1<s.length then
   let x3:=Ht s s1
   (PF (decide (x3.1<48)) (some (decide (57<x3.1)))).bind fun x8=>if x8=true then(some ((s1:Nat):Int)).map fun r=> .inr (.inr r)else some (.inl (s1+x3.2))
   else some (.inr (.inl ()))) 0=some r∧((r= .inl ()∧s.all QW=true)∨ ∃k:Nat,r= .inr (k:Int)∧k<s.length∧s.all QW=false):=by
  refine RR (fun n=>s.length-n) (fun n=>n≤s.length∧(s.take n).all QW=true) _ ?_ ⟨Nat.zero_le _,rfl⟩
  rintro n ⟨h1,h2⟩
  dsimp only
  by_cases hn:n<s.length
  ·rw[if_pos hn]
   have bad:QW s[n]=false→s.all QW=false:=fun hb=>by
    cases ha:s.all QW with
    |false=>rfl
    |true=>rw[List.all_eq_true.1 ha _ (List.getElem_mem hn)]at hb;cases hb
   rcases iZ s n hn with ⟨hb,e⟩|⟨hb,h128,h3,_⟩
   ·rw[e]
    dsimp only
    by_cases hd:QW s[n]=true
    ·have:48≤s[n].toNat∧s[n].toNat≤57:=by simpa [QW]using hd
     have e1:decide ((s[n].toNat:Int)<48)=false:=decide_eq_false (by omega)
     have e2:decide ((57:Int)<(s[n].toNat:Int))=false:=decide_eq_false (by omega)
     rw[e1,e2]
     simp only[PF,Bool.false_eq_true,if_false,Option.bind_some]
     exact .inl ⟨_,rfl,⟨by omega,by rw[Yu hn,h2,hd];rfl⟩,by omega⟩
    ·have hd':QW s[n]=false:=by simpa using hd
     right
     refine⟨.inr (n:Int),?_, .inr ⟨n,rfl,hn,bad hd'⟩⟩
     by_cases h48:s[n].toNat<48
     ·have e1:decide ((s[n].toNat:Int)<48)=true:=decide_eq_true (by omega)
      rw[e1];rfl
     ·have e1:decide ((s[n].toNat:Int)<48)=false:=decide_eq_false (by omega)
      have e2:decide ((57:Int)<(s[n].toNat:Int))=true:=decide_eq_true (by
       have: ¬(48≤s[n].toNat∧s[n].toNat≤57):=by simpa [QW]using hd'
       omega)
      rw[e1,e2];rfl
   ·right
    have hd':QW s[n]=false:=by
     have: ¬(48≤s[n].toNat∧s[n].toNat≤57):=by omega
     simpa [QW]using this
    refine⟨.inr (n:Int),?_, .inr ⟨n,rfl,hn,bad hd'⟩⟩
    have e1:decide ((Ht s n).1<48)=false:=decide_eq_false (by omega)
    have e2:decide ((57:Int)<(Ht s n).1)=true:=decide_eq_true (by omega)
    rw[e1,e2];rfl
  ·rw[if_neg hn]
   exact .inr ⟨_,rfl, .inl ⟨rfl,by rw[List.take_of_length_le (by omega)]at h2;exact h2⟩⟩
 rcases hr with ⟨rfl,ha⟩|⟨k,rfl,hk,ha⟩
 ·exact⟨s.length,(congrArg (fun x:Option (Unit⊕Int)=>x.bind _) e).trans rfl,Nat.le_refl _,by simp[ha]⟩
 ·exact⟨k,(congrArg (fun x:Option (Unit⊕Int)=>x.bind _) e).trans rfl,by omega,by simp[ha,hk]⟩
def gW(s:AR)(m:UInt64):UInt64×Int:=(UInt64.ofNat (Ft s m.toNat).1,(Ft s m.toNat).2)
theorem qJ{s:AR}(h:1<s.length): ∃c,Hb s 0=some c∧s[0]? =some c:=by
 cases s with
 |nil=>simp at h
 |cons c r=>exact⟨c,rfl,rfl⟩
theorem uW{γ:Type}{s:AR}{K:Bool→Option γ}:((Cy (decide (1<(s.length:Int))) ((Hb s 0).bind fun x8=>let x9:=decide ((x8.toNat:Int)=((48:UInt8).toNat:Int));some x9)).bind K)=K (decide (1<s.length∧s[0]? =some 48)):=by
 by_cases h:1<s.length
 ·obtain⟨c,h1,h2⟩:=qJ h
  rw[show decide ((1:Int)<(s.length:Int))=true from decide_eq_true (by omega),h1,h2]
  have:decide ((c.toNat:Int)=((48:UInt8).toNat:Int))=decide (1<s.length∧some c=some (48:UInt8)):=by
   by_cases hc:c=48
   ·subst hc;simp[h]
   ·rw[decide_eq_false,decide_eq_false]
    ·rintro⟨_,e⟩;exact hc (Option.some.inj e)
    ·intro e;exact hc (UInt8.toNat_inj.1 (by omega))
  simp only[Cy,Option.bind_some,if_true]
  rw[this]
 ·rw[show decide ((1:Int)<(s.length:Int))=false from decide_eq_false (by omega),show decide (1<s.length∧s[0]? =some 48)=false from decide_eq_false fun e=>h e.1]
  rfl
theorem WZ{s:AR}{m:Nat}(h:s=[]∨s.all QW=false∨(1<s.length∧s[0]? =some 48)):Ft s m=(0,5):=if_pos h
theorem qX{s:AR}{m:Nat}(h: ¬(s=[]∨s.all QW=false∨(1<s.length∧s[0]? =some 48))):Ft s m=if m<LA 0 s then(0,6)else(LA 0 s,0):=if_neg h
theorem PP{s:AR}{m:UInt64}{n:Nat}{e:Int}(h:Ft s m.toNat=(n,e)):gW s m=(UInt64.ofNat n,e):=by unfold gW;rw[h]
theorem NP(s:AR)(m:UInt64)(hl:s.length<1073741824):GQ s m=some (gW s m):=by
 obtain⟨k,hk,hkl,hka⟩:=lQ s (by omega)
 have hm:=m.toNat_lt
 unfold GQ
 by_cases h0:s=[]
 ·rw[PP (WZ (.inl h0)),show decide (s=[])=true from decide_eq_true h0]
  rfl
 ·rw[show decide (s=[])=false from decide_eq_false h0,hk]
  simp only[PF,Option.bind_some,Bool.false_eq_true,if_false]
  by_cases ha:s.all QW=true
  ·rw[show decide ((k:Int)<(s.length:Int))=false from decide_eq_false (fun hlt=>by have:=hka.1 (by omega);rw[ha]at this;cases this)]
   simp only[Bool.false_eq_true,if_false]
   refine(congrArg (fun x:Option Bool=>x.bind _) (uW (K:=some) (s:=s))).trans ?_
   rw[Option.bind_some]
   by_cases hz:1<s.length∧s[0]? =some 48
   ·rw[PP (WZ (.inr (.inr hz))),if_pos (decide_eq_true hz)];rfl
   ·have hg: ¬(s=[]∨s.all QW=false∨(1<s.length∧s[0]? =some 48)):=fun h=>h.elim h0 fun h=>h.elim (fun h=>by rw[ha]at h;cases h) hz
    rw[if_neg (by rw[decide_eq_false hz];decide)]
    have hp:H3 s 10 64=some (UInt64.ofNat (Gk s).1,(Gk s).2):=by
     unfold H3 ZQ
     rw[if_pos ⟨rfl,rfl,by unfold B4;omega⟩]
    rw[hp,Option.bind_some,jJ h0 ha]
    have hd:=qX (m:=m.toNat) hg
    by_cases hv:18446744073709551615<LA 0 s
    ·rw[if_pos (by omega)]at hd
     rw[PP hd,if_pos hv];rfl
    ·rw[if_neg hv]
     have e:(UInt64.ofNat (LA 0 s)).toNat=LA 0 s:=by rw[UInt64.toNat_ofNat'];omega
     dsimp only
     rw[e]
     by_cases hmv:m.toNat<LA 0 s
     ·rw[if_pos hmv]at hd
      rw[PP hd,show decide ((m.toNat:Int)<(LA 0 s:Int))=true from decide_eq_true (by omega)];rfl
     ·rw[if_neg hmv]at hd
      rw[PP hd,show decide ((m.toNat:Int)<(LA 0 s:Int))=false from decide_eq_false (by omega)];rfl
  ·have ha':s.all QW=false:=by simpa using ha
   rw[PP (WZ (.inr (.inl ha'))),show decide ((k:Int)<(s.length:Int))=true from decide_eq_true (by have:=hka.2 ha';omega)]
   rfl
theorem UK: ∀k:Fin 256,HF (UInt8.ofNat k.1)=some (match Ji (UInt8.ofNat k.1)with|some v=>(UInt16.ofNat v,true)|none=>(65535,false)):=by decide+kernel
theorem aM{c:UInt8}{v:Nat}(h:Ji c=some v):v<16:=by
 unfold Ji at h
 split at h
 ·cases h;omega
 ·split at h
  ·cases h;omega
  ·cases h
theorem LM(c:UInt8):HF c=some (match Ji c with|some v=>(UInt16.ofNat v,true)|none=>(65535,false)):=by
 have:=UK ⟨c.toNat,c.toNat_lt⟩
 simpa using this
theorem or16: ∀x y:Fin 16,((if((4:UInt64).toNat:Int)<0 then none else some (CM (((UInt16.ofNat x.1).toNat:Int)*2^(min ((4:UInt64).toNat:Int).toNat 16)))).map fun z=>MB ((CM (Fy .or .u16 (z.toNat:Int) ((UInt16.ofNat y.1).toNat:Int))).toNat:Int))=some (UInt8.ofNat (16*x.1+y.1)):=by decide+kernel
theorem qH{s:AR}{k:Nat}{a b:UInt8}(h:2*k+1<s.length)(ha:s[2*k]? =some a)(hb:s[2*k+1]? =some b):s.drop (2*k)=a::b::s.drop (2*(k+1)):=by
 rw[List.drop_eq_getElem_cons (by omega),List.drop_eq_getElem_cons (by omega)]
 rw[List.getElem?_eq_getElem (by omega),Option.some.injEq]at ha hb
 rw[ha,hb]
 rfl
theorem vG(s:AR)(hl:s.length<1073741824)(he:s.length%2=0){F:Int×GS UInt8→Option ((Int×GS UInt8)⊕(GS UInt8⊕(GS UInt8×Int)))}
  (h1: ∀(k:Nat) (g:GS UInt8) (a b:UInt8),2*k+1<s.length→s[2*k]? =some a→s[2*k+1]? =some b→F (((2*k:Nat):Int),g)=(match Ji a,Ji b with|some x,some y=>(Sx 1 g [UInt8.ofNat (16*x+y)]).map fun g'=> .inl (((2*k+2:Nat):Int),g')|_,_=>some (.inr (.inr (.nil,5)))))
  (h2: ∀g,F ((s.length:Int),g)=some (.inr (.inl g))):
  (iter F (0, .nil)).bind (Sum.elim (fun p5=>some (p5,(0:Int))) some)=some (match Qj s with|none=>(.nil,5)|some l=>(fN l,0)):=by
 have key: ∀n k (pre:List UInt8),s.length=2*k+2*n→pre.length=k→iter F (((2*k:Nat):Int),fN pre)=some (match Qj (s.drop (2*k))with|none=> .inr (.nil,5)|some l=> .inl (fN (pre++l))):=by
  intro n
  induction n with
  |zero=>
   intro k pre hk hp
   rw[Dr (b:= .inl (fN pre)) (by rw[show 2*k=s.length by omega];exact h2 _),List.drop_of_length_le (by omega)]
   simp[Qj]
  |succ n ih=>
   intro k pre hk hp
   obtain⟨a,ha⟩: ∃a,s[2*k]? =some a:=⟨_,List.getElem?_eq_getElem (by omega)⟩
   obtain⟨b,hb⟩: ∃b,s[2*k+1]? =some b:=⟨_,List.getElem?_eq_getElem (by omega)⟩
   have hs:=h1 k (fN pre) a b (by omega) ha hb
   rw[qH (by omega) ha hb]
   cases ea:Ji a with
   |none=>
    rw[ea]at hs
    rw[Dr hs]
    simp[Qj,ea]
   |some x=>
    cases eb:Ji b with
    |none=>
     rw[ea,eb]at hs
     rw[Dr hs]
     simp[Qj,ea,eb]
    |some y=>
     rw[ea,eb]at hs
     dsimp only at hs
     rw[Vo (by rw[RX];unfold B4;omega),RX,←WE,Option.map_some]at hs
     rw[Hk hs,show 2*k+2=2*(k+1) by omega,ih (k+1) _ (by omega) (by simp[hp])]
     simp only[Qj,ea,eb,Option.bind_some]
     cases Qj (s.drop (2*(k+1)))<;>simp
 have h0:=key (s.length/2) 0 [] (by omega) rfl
 refine(congrArg (fun x:Option (GS UInt8⊕(GS UInt8×Int))=>x.bind (Sum.elim (fun p5=>some (p5,(0:Int))) some)) h0).trans ?_
 rw[Nat.mul_zero,List.drop_zero]
 cases Qj s<;>simp
theorem fG: ∀{s:AR},s.length%2=1→Qj s=none
 |[],h=>by simp at h
 |[_],_=>rfl
 |a::b::s,h=>by
  rw[Qj,fG (s:=s) (by simp at h;omega)]
  cases Ji a<;>cases Ji b<;>rfl
def Aa5(s:AR):GS UInt8×Int:=match Qj s with|none=>(.nil,5)|some l=>(fN l,0)
theorem tm2N(n:Nat):(if(2:Int)=0 then none else some (Int.tmod (n:Int) 2))=some ((n%2:Nat):Int):=by
 rw[if_neg (by decide)];rfl
theorem RT(s:AR)(hl:s.length<1073741824):Jh s=some (Aa5 s):=by
 unfold Jh
 refine(congrArg (fun x:Option Int=>x.bind _) (tm2N s.length)).trans ?_
 rw[Option.bind_some]
 by_cases he:s.length%2=0
 ·rw[if_neg (by rw[he];decide)]
  refine vG s hl he ?_ ?_
  ·intro k g a b hk ha hb
   dsimp only
   rw[if_pos (by rw[decide_eq_true_eq];omega),DH,ha,Option.bind_some,LM,Option.bind_some,show((2*k:Nat):Int)+1=((2*k+1:Nat):Int) by omega,BF (by omega),DH,hb,Option.bind_some,LM,Option.bind_some]
   cases ea:Ji a with
   |none=>rfl
   |some x=>
    cases eb:Ji b with
    |none=>rfl
    |some y=>
     have hx:=aM ea
     have hy:=aM eb
     have ho:=or16 ⟨x,hx⟩ ⟨y,hy⟩
     simp only[PF,Bool.not_true,Bool.false_eq_true,if_false,Option.bind_some]
     obtain⟨z,hz,hz2⟩:=Option.map_eq_some_iff.1 ho
     refine(congrArg (fun q:Option UInt16=>q.bind _) hz).trans ?_
     rw[Option.bind_some,hz2,show((2*k:Nat):Int)+2=((2*k+2:Nat):Int) by omega,BF (by omega)]
     cases Sx 1 g [UInt8.ofNat (16*x+y)]<;>rfl
  ·intro g
   dsimp only
   rw[if_neg (by simp)]
 ·have ho:s.length%2=1:=by omega
  rw[if_pos (by rw[ho];decide)]
  unfold Aa5
  rw[fG ho]
theorem Aa1(g:GS UInt8):Vh g=some (if g.l.length<32 then(zK,3)else if 32<g.l.length then(zK,4)else(rC g.l,0)):=by
 unfold Vh
 by_cases h1:g.l.length<32
 ·rw[if_pos (by rw[decide_eq_true_eq];omega),if_pos h1];rfl
 ·rw[if_neg (by rw[decide_eq_true_eq];omega),if_neg h1]
  by_cases h2:32<g.l.length
  ·rw[if_pos (by rw[decide_eq_true_eq];omega),if_pos h2];rfl
  ·rw[if_neg (by rw[decide_eq_true_eq];omega),if_neg h2]
   have h3:g.l.length=32:=by omega
   have:Yy 32 g=some (rC g.l):=by
    unfold Yy rC
    rw[dif_pos (by omega),dif_pos h3]
    congr 2
    exact List.take_of_length_le (by omega)
   rw[this];rfl
theorem XL(s:AR)(hl:s.length<1073741824):Hj s=some (Aa2 s):=by
 unfold Hj Aa2
 rw[RT s hl,Option.bind_some]
 unfold Aa5
 cases h:Qj s with
 |none=>rfl
 |some l=>
  rw[if_neg (by show¬(!decide ((0:Int)=0))=true;decide),Aa1]
  show(some (if(fN l).l.length<32 then(zK,(3:Int))else if 32<(fN l).l.length then(zK,4)else(rC (fN l).l,0))).bind _=_
  rw[RX]
  rfl
end Go.Proofs.YtobejhpigbllpaaGreatDoor.Am
namespace Go.Proofs.YtobejhpigbllpaaGreatDoor.Am
theorem iX: ∀k:Fin 256,KB (UInt8.ofNat k.1)=some (RJ (UInt8.ofNat k.1)):=by decide+kernel
theorem WA(c:UInt8):KB c=some (RJ c):=by
 have:=iX ⟨c.toNat,c.toNat_lt⟩
 simpa using this
theorem or4{x y:Nat}(hx:x<4096)(hy:y<16):Fy .or .u16 ((16*x:Nat):Int) (y:Int)=((16*x+y:Nat):Int):=by
 show((BitVec.ofInt 16 ((16*x:Nat):Int)|||BitVec.ofInt 16 (y:Int)).toNat:Int)=_
 rw[BitVec.toNat_or]
 have e1:(BitVec.ofInt 16 ((16*x:Nat):Int)).toNat=16*x:=by rw[BitVec.toNat_ofInt];omega
 have e2:(BitVec.ofInt 16 (y:Int)).toNat=y:=by rw[BitVec.toNat_ofInt];omega
 rw[e1,e2,show 16*x=2^4*x from rfl,←Nat.two_pow_add_eq_or_of_lt hy]
theorem vO{γ:Type}{K:UInt16→Option γ}(x v:Nat)(hx:x<4096)(hv:v<16):((if((4:UInt64).toNat:Int)<0 then none else some (CM (((UInt16.ofNat x).toNat:Int)*2^(min ((4:UInt64).toNat:Int).toNat 16)))).bind fun z=>K (CM (Fy .or .u16 (z.toNat:Int) ((UInt16.ofNat v).toNat:Int))))=K (UInt16.ofNat (16*x+v)):=by
 have e4:(2:Int)^(min ((4:UInt64).toNat:Int).toNat 16)=16:=by decide
 have ex:(UInt16.ofNat x).toNat=x:=by rw[UInt16.toNat_ofNat'];omega
 have ev:(UInt16.ofNat v).toNat=v:=by rw[UInt16.toNat_ofNat'];omega
 rw[if_neg (by decide),Option.bind_some,e4,ex,ev,show(x:Int)*16=((16*x:Nat):Int) by omega,Kc (by omega),or4 hx hv]
 congr 1
 apply UInt16.toNat_inj.1
 rw[Kc (by omega),UInt16.toNat_ofNat'];omega
theorem fF{c:UInt8}{v:Nat}(h:Ji (RJ c)=some v):v<16:=aM h
theorem oR{s:AR}{i:Nat}(h:i<s.length)(n:Nat):Qa n (s.drop i)=(Ji (RJ s[i])).bind fun v=>Qa (16*n+v) (s.drop (i+1)):=by
 rw[List.drop_eq_getElem_cons h,Qa]
noncomputable def stepG(s:AR)(s7:UInt16×Int):Option ((UInt16×Int)⊕(UInt16⊕(UInt16×Int))):=
 if(decide (s7.2<(s.length:Int)))=true then
 (Hb s s7.2).bind fun x10=>
 (KB x10).bind fun x11=>
 (HF x11).bind fun x12=>
 if(!x12.2)=true then
 (some ((0:UInt16),5)).map fun r=> .inr (.inr r)
 else
 (if((4:UInt64).toNat:Int)<0 then none else some (CM ((s7.1.toNat:Int)*2^(min ((4:UInt64).toNat:Int).toNat 16)))).bind fun x16=>
 let x17:=CM (Fy .or .u16 (x16.toNat:Int) (x12.1.toNat:Int))
 some (.inl (x17,IntKind.i64.wrap (s7.2+1)))
 else
 some (.inr (.inl s7.1))
theorem oT{s:AR}{i n:Nat}(h4:s.length≤4)(hi:i<s.length)(hn:n<16^i):stepG s (UInt16.ofNat n,(i:Int))=(match Ji (RJ s[i])with|some v=>some (.inl (UInt16.ofNat (16*n+v),((i+1:Nat):Int)))|none=>some (.inr (.inr (0,5)))):=by
 unfold stepG
 dsimp only
 rw[if_pos (by rw[decide_eq_true_eq];omega),DH,List.getElem?_eq_getElem hi,Option.bind_some,WA,Option.bind_some,LM,Option.bind_some]
 cases ho:Ji (RJ s[i])with
 |none=>rfl
 |some v=>
  have hn4:n<4096:=Nat.lt_of_lt_of_le hn (Nat.le_trans (Nat.pow_le_pow_right (by decide) (show i≤3 by omega)) (by decide))
  have:=vO n v hn4 (fF ho) (K:=fun x17=>(some (.inl (x17,IntKind.i64.wrap ((i:Int)+1))):Option ((UInt16×Int)⊕(UInt16⊕(UInt16×Int)))))
  refine this.trans ?_
  rw[show(i:Int)+1=((i+1:Nat):Int) by omega,BF (by omega)]
theorem fK{s:AR}(h4:s.length≤4): ∀k i n,s.length=i+k→n<16^i→iter (stepG s) (UInt16.ofNat n,(i:Int))=some (match Qa n (s.drop i)with|some m=> .inl (UInt16.ofNat m)|none=> .inr (0,5)):=by
 intro k
 induction k with
 |zero=>
  intro i n hk hn
  rw[Dr (b:= .inl (UInt16.ofNat n)) (by unfold stepG;dsimp only;rw[if_neg (by rw[decide_eq_true_eq];omega)]),List.drop_of_length_le (by omega)]
  rfl
 |succ k ih=>
  intro i n hk hn
  have hi:i<s.length:=by omega
  have hs:=oT h4 hi hn
  rw[oR hi]
  cases e:Ji (RJ s[i])with
  |none=>
   rw[e]at hs
   rw[Dr hs];rfl
  |some v=>
   rw[e]at hs
   rw[Hk hs,ih (i+1) _ (by omega) (by have:=fF e;rw[Nat.pow_succ];omega)]
   rfl
theorem Y7(s:AR)(hl:s.length<1073741824):Ed s=some (match cG s with|some n=>(UInt16.ofNat n,0)|none=>(0,5)):=by
 unfold Ed cG
 by_cases h1:s.length<1
 ·rw[show decide ((s.length:Int)<1)=true from decide_eq_true (by omega),if_neg (by omega)];rfl
 ·rw[show decide ((s.length:Int)<1)=false from decide_eq_false (by omega)]
  by_cases h4:4<s.length
  ·rw[show decide ((4:Int)<(s.length:Int))=true from decide_eq_true (by omega),if_neg (by omega)];rfl
  ·rw[show decide ((4:Int)<(s.length:Int))=false from decide_eq_false (by omega),if_pos (by omega)]
   have h0:=fK (s:=s) (by omega) s.length 0 0 (by omega) (by decide)
   refine(congrArg (fun x:Option (UInt16⊕(UInt16×Int))=>x.bind (Sum.elim (fun p8=>some (p8,(0:Int))) some)) h0).trans ?_
   rw[List.drop_zero]
   cases Qa 0 s<;>rfl
def ar4(l:List UInt8):Ar UInt8 4:=if h:l.length=4 then⟨l,h⟩else⟨[0,0,0,0],rfl⟩
theorem Y9(s:AR):(Em s).1.length=4:=by
 unfold Em
 split
 ·split
  ·simp;assumption
  ·rfl
 ·rfl
theorem Nw{c:UInt8}: ∀{l:AR} {x:AR},x∈Bq c l→x.length≤l.length
 |[],x,h=>by simp only[Bq,List.mem_singleton]at h;subst h;simp
 |y::l,x,h=>by
  simp only[Bq]at h
  by_cases hy:y=c
  ·rw[if_pos hy]at h
   rcases List.mem_cons.1 h with rfl|h
   ·simp
   ·have:=Nw h;simp;omega
  ·rw[if_neg hy]at h
   cases e:Bq c l with
   |nil=>exact absurd e (Fd l)
   |cons a t=>
    rw[e]at h
    rcases List.mem_cons.1 h with rfl|h
    ·have:=Nw (c:=c) (l:=l) (x:=a) (by rw[e];simp);simp;omega
    ·have:=Nw (c:=c) (l:=l) (x:=x) (by rw[e];exact List.mem_cons_of_mem _ h);simp;omega
theorem Za(s:AR):(gW s 255).2=(Ft s 255).2:=rfl
theorem uO(s:AR)(h:(Ft s 255).2=0):MB ((gW s 255).1.toNat:Int)=UInt8.ofNat (Ft s 255).1:=by
 have hb:(Ft s 255).1≤255:=by
  unfold Ft at h ⊢
  split
  ·simp
  ·split
   ·simp
   ·simp;omega
 unfold gW
 show MB ((UInt64.ofNat (Ft s 255).1).toNat:Int)=_
 rw[UInt64.toNat_ofNat',show(Ft s 255).1%2^64=(Ft s 255).1 by omega]
 apply UInt8.toNat_inj.1
 rw[show MB (((Ft s 255).1:Nat):Int)=UInt8.ofNat (((Ft s 255).1:Int)%256).toNat from rfl]
 congr 2
 omega
theorem Sv: ∀(l:List AR) (x:AR),LW l=0→LW (l++[x])=(Ft x 255).2
 |[],x,_=>by
  show(if(Ft x 255).2=0 then LW []else(Ft x 255).2)=_
  split
  ·rename_i h;rw[h];rfl
  ·rfl
 |y::l,x,h=>by
  rw[List.cons_append,LW]
  rw[LW]at h
  split at h
  ·rename_i hy
   rw[if_pos hy,Sv l x h]
  ·rename_i hy
   exact absurd h hy
theorem iF: ∀(l:List AR) (r:List AR),LW l≠0→LW (l++r)=LW l
 |[],r,h=>absurd rfl h
 |y::l,r,h=>by
  rw[List.cons_append,LW,LW]
  rw[LW]at h
  split
  ·rename_i hy
   rw[if_pos hy]at h
   exact iF l r h
  ·rfl
theorem pI(P:List AR)(hP:P.length=4){F:Int×Ar UInt8 4→Option ((Int×Ar UInt8 4)⊕(Ar UInt8 4⊕(Ar UInt8 4×Int)))}
  (h1: ∀(i:Nat) (A:Ar UInt8 4) (x:AR),i<4→P[i]? =some x→F ((i:Int),A)=if(Ft x 255).2=0 then some (.inl (((i+1:Nat):Int),A.set i (UInt8.ofNat (Ft x 255).1)))else some (.inr (.inr (⟨[0,0,0,0],rfl⟩,(Ft x 255).2))))
  (h2: ∀A,F (((4:Nat):Int),A)=some (.inr (.inl A))):
  (iter F (0,(T.arr 4 T.u8).z)).bind (Sum.elim (fun p=>some (p,(0:Int))) some)=some (if LW P=0 then(ar4 (P.map fun x=>UInt8.ofNat (Ft x 255).1),0)else(⟨[0,0,0,0],rfl⟩,LW P)):=by
 have key: ∀n i (A:Ar UInt8 4),i+n=4→LW (P.take i)=0→A.l.take i=(P.take i).map (fun x=>UInt8.ofNat (Ft x 255).1)→iter F ((i:Int),A)=some (if LW P=0 then .inl (ar4 (P.map fun x=>UInt8.ofNat (Ft x 255).1))else .inr (⟨[0,0,0,0],rfl⟩,LW P)):=by
  intro n
  induction n with
  |zero=>
   intro i A hi hb hA
   obtain rfl:i=4:=by omega
   rw[Dr (h2 A)]
   have e1:P.take 4=P:=List.take_of_length_le (by omega)
   have e2:A.l.take 4=A.l:=List.take_of_length_le (by rw[A.len];omega)
   rw[e1]at hb hA
   rw[e2]at hA
   rw[if_pos hb]
   congr 1
   unfold ar4
   rw[dif_pos (by simp[hP])]
   obtain⟨l,hl⟩:=A
   simp only at hA
   subst hA
   rfl
  |succ n ih=>
   intro i A hi hb hA
   have hlt:i<P.length:=by omega
   have hx:=h1 i A P[i] (by omega) (List.getElem?_eq_getElem hlt)
   have hP2:P=P.take i++[P[i]]++P.drop (i+1):=by
    rw[List.append_assoc,List.singleton_append,←List.drop_eq_getElem_cons hlt,List.take_append_drop]
   by_cases hd:(Ft P[i] 255).2=0
   ·rw[if_pos hd]at hx
    rw[Hk hx]
    refine ih (i+1) _ (by omega) ?_ ?_
    ·rw[List.take_succ_eq_append_getElem hlt,Sv _ _ hb,hd]
    ·rw[List.take_succ_eq_append_getElem hlt,List.map_append,←hA]
     show(A.l.set i _).take (i+1)=_
     rw[R5 (by rw[A.len];omega) rfl]
     rfl
   ·rw[if_neg hd]at hx
    rw[Dr hx]
    have hq:LW P=(Ft P[i] 255).2:=by
     conv=>lhs;rw[hP2]
     rw[iF _ _ (by rw[Sv _ _ hb];exact hd),Sv _ _ hb]
    rw[hq,if_neg hd]
 have h0:=key 4 0 (T.arr 4 T.u8).z rfl rfl rfl
 refine(congrArg (fun x:Option (Ar UInt8 4⊕(Ar UInt8 4×Int))=>x.bind _) h0).trans ?_
 split<;>rfl
def nB(s:AR):Ar UInt8 4×Int:=(ar4 (Em s).1,(Em s).2)
theorem VV(s:AR)(hl:s.length<1073741824):JQ s=some (nB s):=by
 unfold JQ nB Em
 rw[YD s 46 hl,Option.bind_some]
 by_cases h4:(Bq 46 s).length=4
 ·rw[if_pos h4]
  refine Eq.trans (if_neg (by simp[h4])) ?_
  refine(pI (Bq 46 s) h4 ?_ ?_).trans ?_
  ·intro i A x hi hx
   have hxl:x.length<1073741824:=by
    have:=Nw (List.mem_of_getElem? hx);omega
   refine Eq.trans (if_pos (by simp[h4];omega)) ?_
   dsimp only
   rw[DH,Lx,hx,Option.bind_some,NP x 255 hxl,Option.bind_some]
   by_cases hd:(Ft x 255).2=0
   ·rw[if_neg (by rw[Za,hd];decide),if_pos hd,CN hi,Option.bind_some,if_pos hi,Option.bind_some,uO x hd,show(i:Int)+1=((i+1:Nat):Int) by omega,BF (by omega)]
   ·rw[if_pos (by rw[Za];simp[hd]),if_neg hd]
    rfl
  ·intro A
   exact if_neg (by simp[h4])
  ·by_cases hb:LW (Bq 46 s)=0
   ·rw[if_pos hb,if_pos hb]
   ·rw[if_neg hb,if_neg hb];rfl
 ·rw[if_neg h4]
  refine Eq.trans (if_pos (by simp only[Bool.not_eq_true',decide_eq_false_iff_not];intro e;exact h4 (Int.ofNat.inj e))) rfl
end Go.Proofs.YtobejhpigbllpaaGreatDoor.Am
namespace Go.Proofs.YtobejhpigbllpaaGreatDoor.Am
def Yz(gp:Option Nat)(l:List Nat)(p:AR):Option (List Nat×Option Nat):=
 match cG p with
 |some x=>if l.length=8 then none else some (l++[x],gp)
 |none=>if(Em p).2=0 then(if 7≤l.length then none else some (l++[256*((Em p).1.getD 0 0).toNat+((Em p).1.getD 1 0).toNat,256*((Em p).1.getD 2 0).toNat+((Em p).1.getD 3 0).toNat],gp))else none
def cH:Option Nat→List Nat→List AR→Option (List Nat×Option Nat)
 |_,_,[]=>none
 |gp,l,[p]=>Yz gp l p
 |gp,l,p::q::r=>match cG p with
  |none=>none
  |some x=>if l.length=8 then none else
   if q=[]∧r≠[]then(if gp.isSome=true then none else if r=[[]]then some (l++[x],some (l.length+1))else cH (some (l.length+1)) (l++[x]) r)
   else cH gp (l++[x]) (q::r)
theorem zH:cG []=none:=rfl
theorem QB{gp:Option Nat}{l:List Nat}(hl:l.length≤8)(p:AR):Yz gp l p=(E6 true [p]).bind fun m=>if l.length+m.length≤8 then some (l++m,gp)else none:=by
 unfold Yz E6
 cases cG p with
 |some x=>
  simp only[E6,Option.map_some,Option.bind_some,List.length_cons,List.length_nil]
  by_cases h:l.length=8
  ·rw[if_pos h,if_neg (by omega)]
  ·rw[if_neg h,if_pos (by omega)]
 |none=>
  by_cases hq:(Em p).2=0
  ·simp only[hq,true_and,if_true,Option.bind_some,List.length_cons,List.length_nil]
   by_cases h:7≤l.length
   ·rw[if_pos h,if_neg (by omega)]
   ·rw[if_neg h,if_pos (by omega)]
  ·simp[hq]
theorem JS(last:Bool)(p q:AR)(r:List AR):E6 last (p::q::r)=(cG p).bind fun n=>(E6 last (q::r)).map fun l=>n::l:=by
 rw[E6]
 cases cG p with
 |none=>simp
 |some n=>rfl
theorem ZJ(g:Nat): ∀(P:List AR) (l:List Nat),P≠[]→l.length≤8→cH (some g) l P=(E6 true P).bind fun m=>if l.length+m.length≤8 then some (l++m,some g)else none
 |[],l,h,_=>absurd rfl h
 |[p],l,_,hl=>by rw[cH,QB hl]
 |p::q::r,l,_,hl=>by
  rw[cH,JS]
  cases cG p with
  |none=>rfl
  |some x=>
   dsimp only
   rw[Option.bind_some]
   by_cases h8:l.length=8
   ·rw[if_pos h8]
    cases E6 true (q::r)with
    |none=>rfl
    |some m=>
     simp only[Option.map_some,Option.bind_some,List.length_cons]
     rw[if_neg (by omega)]
   ·rw[if_neg h8]
    by_cases hq:q=[]∧r≠[]
    ·rw[if_pos hq,if_pos (by rfl)]
     obtain⟨rfl,hr⟩:=hq
     obtain⟨a,t,rfl⟩:=List.exists_cons_of_ne_nil hr
     rw[JS,zH];rfl
    ·rw[if_neg hq,ZJ g (q::r) _ (by simp) (by simp;omega)]
     cases E6 true (q::r)with
     |none=>rfl
     |some m=>
      simp only[Option.map_some,Option.bind_some,List.length_cons,List.length_append,List.length_nil]
      by_cases h:l.length+(0+1)+m.length≤8
      ·rw[if_pos h,if_pos (by omega)];simp
      ·rw[if_neg h,if_neg (by omega)]
def Xl(l m:List Nat)(b:AR):Option (List Nat×Option Nat):=
 if l.length+m.length≤8 then(if b=[]then some (l++m,some (l.length+m.length))else(E6 true (Bq 58 b)).bind fun m'=>if l.length+m.length+m'.length≤8 then some (l++m++m',some (l.length+m.length))else none)else none
theorem vS{p:AR}(hp:(58:UInt8)∉p): ∀t:AR,H9 (p++58::t)=(H9 (58::t)).map fun q=>(p++q.1,q.2):=by
 induction p with
 |nil=>
  intro t
  rw[List.nil_append]
  cases H9 (58::t)<;>rfl
 |cons a p ih=>
  intro t
  have ha:a≠58:=fun e=>hp (by simp[e])
  have hp':(58:UInt8)∉p:=fun h=>hp (List.mem_cons_of_mem _ h)
  have ih':=ih hp' t
  obtain⟨b,s,e⟩: ∃b s,p++58::t=b::s:=by
   cases p with
   |nil=>exact⟨_,_,rfl⟩
   |cons b s=>exact⟨_,_,rfl⟩
  rw[List.cons_append,e,H9,if_neg (fun h=>ha h.1),←e,ih']
  cases H9 (58::t)<;>rfl
theorem nP(t:AR):H9 (58::58::t)=some ([],t):=by rw[H9,if_pos ⟨rfl,rfl⟩]
theorem vR{c:UInt8}(hc:c≠58)(t:AR):H9 (58::c::t)=(H9 (c::t)).map fun q=>(58::q.1,q.2):=by rw[H9,if_neg (fun h=>hc h.2)]
theorem qM{s:AR}(h:(58:UInt8)∉s):H9 s=none:=(PL h).1
theorem Md{c:UInt8}{x:UInt8}{t:AR}(h:x≠c): ∃a r,Bq c (x::t)=(x::a)::r:=by
 rw[Bq,if_neg h]
 cases e:Bq c t with
 |nil=>exact absurd e (Fd t)
 |cons a r=>exact⟨a,r,rfl⟩
theorem sO: ∀(n:Nat) (s:AR) (l:List Nat),s.length≤n→l.length≤8→cH none l (Bq 58 s)=(match H9 s with
  |none=>(E6 true (Bq 58 s)).bind fun m=>if l.length+m.length≤8 then some (l++m,none)else none
  |some (a,b)=>(E6 false (Bq 58 a)).bind fun m=>Xl l m b):=by
 intro n
 induction n with
 |zero=>
  intro s l hs hl
  obtain rfl:s=[]:=List.length_eq_zero_iff.1 (by omega)
  show cH none l [[]]=(E6 true [[]]).bind _
  rw[cH,QB hl]
 |succ n ih=>
  intro s l hs hl
  rcases Pq s 58 with ⟨hn,_⟩|⟨p,q,rfl,hn,_⟩
  ·have h58:(58:UInt8)∉s:=fun h=>hn 58 h rfl
   rw[IF hn,qM h58,cH,QB hl]
  ·have hp:(58:UInt8)∉p:=fun h=>hn 58 h rfl
   have hq:q.length≤n:=by simp at hs;omega
   rw[HB hn,vS hp]
   match q,hq with
   |[],_=>
    have e:Bq 58 ([]:AR)=[[]]:=rfl
    have eg:H9 [58]=none:=rfl
    rw[e,eg,JS,cH]
    have e2:E6 true [[]]=none:=rfl
    have e3: ∀l,cH none l [[]]=none:=fun l=>rfl
    rw[e2]
    cases cG p with
    |none=>rfl
    |some x=>
     dsimp only
     rw[if_neg (by simp: ¬(([]:AR)=[]∧([]:List AR)≠[])),e3]
     split<;>rfl
   |c::t,hq=>
    by_cases hc:c=58
    ·subst hc
     have e:Bq 58 (58::t)=[]::Bq 58 t:=by rw[Bq,if_pos rfl]
     rw[e,nP,cH]
     simp only[Option.map_some,List.append_nil,IF hn]
     cases h:cG p with
     |none=>simp[E6,h]
     |some x=>
      have e2:E6 false [p]=some [x]:=by simp[E6,h]
      rw[e2]
      dsimp only
      rw[Option.bind_some]
      unfold Xl
      simp only[List.length_cons,List.length_nil]
      by_cases h8:l.length=8
      ·rw[if_pos h8,if_neg (by omega)]
      ·rw[if_neg h8,if_pos ⟨trivial,Fd t⟩,if_neg (by simp),if_pos (show l.length+(0+1)≤8 by omega)]
       have et:(Bq 58 t=[[]])↔t=[]:=by
        constructor
        ·intro h
         cases t with
         |nil=>rfl
         |cons y t=>
          by_cases hy:y=58
          ·rw[Bq,if_pos hy]at h
           have:=(List.cons.inj h).2
           exact absurd this (Fd t)
          ·obtain⟨a,r,e⟩:=Md (t:=t) hy
           rw[e]at h
           have:=(List.cons.inj h).1
           cases this
        ·rintro rfl;rfl
       by_cases h0:t=[]
       ·rw[if_pos (et.2 h0),if_pos h0]
       ·rw[if_neg (fun h=>h0 (et.1 h)),if_neg h0,ZJ _ _ _ (Fd t) (by simp;omega)]
        simp
    ·have hcp:Bq 58 (c::t)≠[]:=Fd _
     obtain⟨a,r,e⟩:=Md (t:=t) hc
     have ih':=ih (c::t) (l:=l++[(cG p).getD 0]) hq
     rw[vR hc]
     rw[e]at ih' ⊢
     rw[cH,JS]
     cases h:cG p with
     |none=>
      cases H9 (c::t)with
      |none=>rfl
      |some q=>
       obtain⟨a',b'⟩:=q
       simp only[Option.map_some]
       rw[HB hn]
       obtain⟨u,v,e3⟩:=List.exists_cons_of_ne_nil (Fd (c:=58) a')
       rw[e3,JS,h];rfl
     |some x=>
      rw[h]at ih'
      simp only[Option.getD_some]at ih'
      dsimp only
      by_cases h8:l.length=8
      ·rw[if_pos h8]
       cases H9 (c::t)with
       |none=>
        simp only[Option.map_none,Option.bind_some]
        cases E6 true ((c::a)::r)with
        |none=>rfl
        |some m=>simp only[Option.map_some,Option.bind_some,List.length_cons];rw[if_neg (by omega)]
       |some q=>
        obtain⟨a',b'⟩:=q
        simp only[Option.map_some]
        rw[HB hn]
        obtain⟨u,v,e3⟩:=List.exists_cons_of_ne_nil (Fd (c:=58) a')
        rw[e3,JS,h,Option.bind_some]
        cases E6 false (u::v)with
        |none=>rfl
        |some m=>
         simp only[Option.map_some,Option.bind_some]
         unfold Xl
         rw[if_neg (by simp;omega)]
      ·rw[if_neg h8,if_neg (by simp),ih' (by simp;omega)]
       cases H9 (c::t)with
       |none=>
        simp only[Option.map_none,Option.bind_some]
        cases E6 true ((c::a)::r)with
        |none=>rfl
        |some m=>
         simp only[Option.map_some,Option.bind_some,List.length_cons,List.length_append,List.length_nil,List.append_assoc,List.singleton_append]
         by_cases hh:l.length+(0+1)+m.length≤8
         ·rw[if_pos hh,if_pos (by omega)]
         ·rw[if_neg hh,if_neg (by omega)]
       |some q=>
        obtain⟨a',b'⟩:=q
        simp only[Option.map_some]
        rw[HB hn]
        obtain⟨u,v,e3⟩:=List.exists_cons_of_ne_nil (Fd (c:=58) a')
        rw[e3,JS,h,Option.bind_some]
        cases E6 false (u::v)with
        |none=>rfl
        |some m=>
         simp only[Option.map_some,Option.bind_some]
         unfold Xl
         simp only[List.length_append,List.length_cons,List.length_nil,List.append_assoc,List.singleton_append]
         rw[show l.length+(0+1)+m.length=l.length+(m.length+1) by omega]
def gapI:Option Nat→Int
 |none=> -1
 |some g=>(g:Int)
def UY(r:A5)(l:List Nat)(gp:Option Nat):Prop:=
 r.n_=(l.length:Int)∧l.length≤8∧r.g_.l.take l.length=l.map UInt16.ofNat∧r.gap_=gapI gp
noncomputable def putR(r:A5)(v:UInt16):Option (Bool×A5):=
 if(decide (r.n_=8))=true then
 some (false,r)
 else
 (Dl 8 r.n_).bind fun x93=>
 (if x93<8 then some ({r with g_:=r.g_.set x93 v})else none).bind fun x94=>
 some (true,{x94 with n_:=IntKind.i64.wrap (x94.n_+1)})
theorem PD{r:A5}{l:List Nat}{gp:Option Nat}{v:UInt16}(h:UY r l gp)(h8:l.length=8):putR r v=some (false,r):=by
 unfold putR
 rw[if_pos (by rw[decide_eq_true_eq,h.1,h8];rfl)]
theorem Vf{r:A5}{l:List Nat}{gp:Option Nat}(h:UY r l gp)(h8: ¬l.length=8)(x:Nat): ∃r',putR r (UInt16.ofNat x)=some (true,r')∧UY r' (l++[x]) gp:=by
 obtain⟨h1,h2,h3,h4⟩:=h
 unfold putR
 rw[if_neg (by rw[decide_eq_true_eq,h1];omega),h1,CN (by omega),Option.bind_some,if_pos (by omega),Option.bind_some]
 refine⟨_,rfl,?_,?_,?_,h4⟩
 ·show IntKind.i64.wrap ((l.length:Int)+1)=_
  rw[show(l.length:Int)+1=((l.length+1:Nat):Int) by omega,BF (by omega),List.length_append];rfl
 ·simp;omega
 ·show(r.g_.l.set l.length _).take (l++[x]).length=_
  rw[List.length_append,show [x].length=1 from rfl,R5 (by rw[r.g_.len];omega) rfl,h3,List.map_append];rfl
theorem or8h{x y:Nat}(hx:x<256)(hy:y<256):Fy .or .u16 ((256*x:Nat):Int) (y:Int)=((256*x+y:Nat):Int):=by
 show((BitVec.ofInt 16 ((256*x:Nat):Int)|||BitVec.ofInt 16 (y:Int)).toNat:Int)=_
 rw[BitVec.toNat_or]
 have e1:(BitVec.ofInt 16 ((256*x:Nat):Int)).toNat=256*x:=by rw[BitVec.toNat_ofInt];omega
 have e2:(BitVec.ofInt 16 (y:Int)).toNat=y:=by rw[BitVec.toNat_ofInt];omega
 rw[e1,e2,show 256*x=2^8*x from rfl,←Nat.two_pow_add_eq_or_of_lt hy]
theorem YE{γ:Type}{K:UInt16→Option γ}(x:UInt8){M:UInt16→Option UInt16}(y:UInt8)(hM: ∀z,M z=some (CM (Fy .or .u16 (z.toNat:Int) ((CM (y.toNat:Int)).toNat:Int)))):((if((8:UInt64).toNat:Int)<0 then none else some (CM (((CM (x.toNat:Int)).toNat:Int)*2^(min ((8:UInt64).toNat:Int).toNat 16)))).bind fun z=>(M z).bind K)=K (UInt16.ofNat (256*x.toNat+y.toNat)):=by
 have hx:=x.toNat_lt
 have hy:=y.toNat_lt
 have e8:(2:Int)^(min ((8:UInt64).toNat:Int).toNat 16)=256:=by decide
 rw[if_neg (by decide),Option.bind_some,hM,Option.bind_some,e8,Kc (by omega),Kc (by omega),show(x.toNat:Int)*256=((256*x.toNat:Nat):Int) by omega,Kc (by omega),or8h (by omega) (by omega)]
 congr 1
 apply UInt16.toNat_inj.1
 rw[Kc (by omega),UInt16.toNat_ofNat'];omega
noncomputable def rT(r:A5)(a:AR):Option (Bool×A5):=
 (Ed a).bind fun x15=>
 if(decide (x15.2=0))=true then
 (putR r x15.1).bind (fun(p19:(Bool×A5))=>some (p19.1,p19.2))
 else
 (JQ a).bind fun x28=>
 if(decide (x28.2=0))=true then
 (Dl 4 0).bind fun x34=>
 (x28.1.l[x34]?).bind fun x35=>
 (if((8:UInt64).toNat:Int)<0 then none else some (CM (((CM (x35.toNat:Int)).toNat:Int)*2^(min ((8:UInt64).toNat:Int).toNat 16)))).bind fun x37=>
 (Dl 4 1).bind fun x38=>
 (x28.1.l[x38]?).bind fun x39=>
 let x41:=CM (Fy .or .u16 (x37.toNat:Int) ((CM (x39.toNat:Int)).toNat:Int))
 (putR r x41).bind (fun(p42:(Bool×A5))=>
 if p42.1=true then
 (Dl 4 2).bind fun x51=>
 (x28.1.l[x51]?).bind fun x52=>
 (if((8:UInt64).toNat:Int)<0 then none else some (CM (((CM (x52.toNat:Int)).toNat:Int)*2^(min ((8:UInt64).toNat:Int).toNat 16)))).bind fun x54=>
 (Dl 4 3).bind fun x55=>
 (x28.1.l[x55]?).bind fun x56=>
 let x58:=CM (Fy .or .u16 (x54.toNat:Int) ((CM (x56.toNat:Int)).toNat:Int))
 (putR p42.2 x58).bind (fun(p59:(Bool×A5))=>some (p59.1,p59.2))
 else
 some (false,p42.2))
 else
 some (false,r)
theorem Vm(s:AR)(i:Nat)(hi:i<4):(ar4 (Em s).1).l[i]? =some ((Em s).1.getD i 0):=by
 have h:=Y9 s
 have e:(ar4 (Em s).1).l=(Em s).1:=by unfold ar4;rw[dif_pos h]
 rw[e,List.getElem?_eq_getElem (by omega),List.getD_eq_getElem?_getD,List.getElem?_eq_getElem (by omega)];rfl
theorem Y0{r:A5}{l:List Nat}{gp:Option Nat}(h:UY r l gp)(p:AR)(hl:p.length<1073741824): ∃b r',rT r p=some (b,r')∧(b=true→ ∃l' gp',Yz gp l p=some (l',gp')∧UY r' l' gp')∧(b=false→Yz gp l p=none):=by
 unfold rT Yz
 rw[Y7 p hl,Option.bind_some]
 cases hg:cG p with
 |some x=>
  dsimp only
  rw[if_pos (by simp)]
  by_cases h8:l.length=8
  ·rw[PD h h8,if_pos h8]
   exact⟨false,r,rfl,fun e=>(by cases e),fun _=>rfl⟩
  ·obtain⟨r',e,hr⟩:=Vf h h8 x
   rw[e,if_neg h8]
   exact⟨true,r',rfl,fun _=>⟨_,_,rfl,hr⟩,fun e=>(by cases e)⟩
 |none=>
  dsimp only
  rw[if_neg (by decide),VV p hl,Option.bind_some]
  unfold nB
  dsimp only
  by_cases hq:(Em p).2=0
  ·rw[if_pos (decide_eq_true hq),if_pos hq]
   have i0:Dl 4 0=some 0:=rfl
   have i1:Dl 4 1=some 1:=rfl
   have i2:Dl 4 2=some 2:=rfl
   have i3:Dl 4 3=some 3:=rfl
   rw[i0,Option.bind_some,Vm p 0 (by omega),Option.bind_some]
   simp only[i1,i2,i3,Option.bind_some,Vm p 1 (by omega),Vm p 2 (by omega),Vm p 3 (by omega)]
   have s1:=YE (K:=fun x41=>(putR r x41).bind (fun(p42:(Bool×A5))=>if p42.1=true then(if((8:UInt64).toNat:Int)<0 then none else some (CM (((CM (((Em p).1.getD 2 0).toNat:Int)).toNat:Int)*2^(min ((8:UInt64).toNat:Int).toNat 16)))).bind fun x54=>(putR p42.2 (CM (Fy .or .u16 (x54.toNat:Int) ((CM (((Em p).1.getD 3 0).toNat:Int)).toNat:Int)))).bind (fun(p59:(Bool×A5))=>some (p59.1,p59.2))else some (false,p42.2))) ((Em p).1.getD 0 0) ((Em p).1.getD 1 0) (fun z=>rfl)
   have s2: ∀r2:A5,_:=fun r2=>YE (K:=fun x=>(putR r2 x).bind (fun(p59:(Bool×A5))=>some (p59.1,p59.2))) ((Em p).1.getD 2 0) ((Em p).1.getD 3 0) (fun z=>rfl)
   by_cases h8:l.length=8
   ·refine⟨false,r,s1.trans ?_,fun e=>(by cases e),fun _=>if_pos (by omega)⟩
    rw[PD h h8];rfl
   ·obtain⟨r1,e1,hr1⟩:=Vf h h8 (256*((Em p).1.getD 0 0).toNat+((Em p).1.getD 1 0).toNat)
    by_cases h7:l.length=7
    ·have hp2: ∀v,putR r1 v=some (false,r1):=fun v=>PD hr1 (by simp;omega)
     refine⟨false,r1,s1.trans ?_,fun e=>(by cases e),fun _=>if_pos (by omega)⟩
     rw[e1]
     refine(s2 r1).trans ?_
     rw[hp2];rfl
    ·obtain⟨r2,e2,hr2⟩:=Vf hr1 (by simp;have:=h.2.1;omega) (256*((Em p).1.getD 2 0).toNat+((Em p).1.getD 3 0).toNat)
     refine⟨true,r2,s1.trans ?_,fun _=>⟨_,_,if_neg (by have:=h.2.1;omega),by rw[List.append_assoc]at hr2;exact hr2⟩,fun e=>(by cases e)⟩
     rw[e1]
     refine(s2 r1).trans ?_
     rw[e2];rfl
  ·rw[if_neg (by rw[decide_eq_true_eq];exact hq),if_neg hq]
   exact⟨false,r,rfl,fun e=>(by cases e),fun _=>rfl⟩
theorem VZ(s p:AR):CL s p=some (decide (s.take p.length=p)):=by
 unfold CL BY
 by_cases h:p.length≤s.length
 ·rw[show decide ((p.length:Int)≤(s.length:Int))=true from decide_eq_true (by omega),Vb h]
  rfl
 ·rw[show decide ((p.length:Int)≤(s.length:Int))=false from decide_eq_false (by omega),decide_eq_false (p:=s.take p.length=p) fun e=>by
   have:=congrArg List.length e
   rw[List.length_take]at this
   omega]
  rfl
theorem jH(s:AR):CL s [58]=some (decide (s.head?=some 58)):=by
 rw[VZ]
 cases s with
 |nil=>rfl
 |cons c s=>
  show some (decide ([c]=[58]))=_
  by_cases h:c=58
  ·subst h;rfl
  ·rw[decide_eq_false (p:=[c]=[58]) fun e=>h (List.cons.inj e).1,decide_eq_false (p:=(c::s).head?=some 58) fun e=>h (Option.some.inj e)]
noncomputable def TG(s7:AR×A5):Option ((AR×A5)⊕(Empty⊕(Bool×A5))):=
 (F3 s7.1 (58:UInt8)).bind fun x9=>
 if(!x9.2.2)=true then
 (rT s7.2 x9.1).bind (fun(p14:(Bool×A5))=>
 (some (p14.1,p14.2)).map fun r=> .inr (.inr r))
 else
 (Ed x9.1).bind fun x85=>
 if(!decide (x85.2=0))=true then
 (some (false,s7.2)).map fun r=> .inr (.inr r)
 else
 (putR s7.2 x85.1).bind (fun(p89:(Bool×A5))=>
 if(!p89.1)=true then
 (some (false,p89.2)).map fun r=> .inr (.inr r)
 else
 (CL x9.2.1 [58]).bind fun x99=>
 if(!x99)=true then
 some (.inl (x9.2.1,p89.2))
 else
 if(decide (0≤p89.2.gap_))=true then
 (some (false,p89.2)).map fun r=> .inr (.inr r)
 else
 (Nv x9.2.1 (some 1) none).bind fun x105=>
 if(decide (x105=[]))=true then
 (some (true,{p89.2 with gap_:=p89.2.n_})).map fun r=> .inr (.inr r)
 else
 some (.inl (x105,{p89.2 with gap_:=p89.2.n_})))
theorem Qr(t:AR):(Bq 58 t=[[]])↔t=[]:=by
 constructor
 ·intro h
  cases t with
  |nil=>rfl
  |cons y t=>
   by_cases hy:y=58
   ·rw[Bq,if_pos hy]at h
    exact absurd (List.cons.inj h).2 (Fd t)
   ·obtain⟨a,r,e⟩:=Md (t:=t) hy
    rw[e]at h
    have:=(List.cons.inj h).1
    cases this
 ·rintro rfl;rfl
theorem Xc: ∀(n:Nat) (s:AR) (r:A5) (l:List Nat) (gp:Option Nat),s.length≤n→n<1073741824→UY r l gp→
  ∃b r',iter TG (s,r)=some (.inr (b,r'))∧(b=true→ ∃l' gp',cH gp l (Bq 58 s)=some (l',gp')∧UY r' l' gp')∧(b=false→cH gp l (Bq 58 s)=none):=by
 intro n
 induction n with
 |zero=>
  intro s r l gp hs hn h
  obtain rfl:s=[]:=List.length_eq_zero_iff.1 (by omega)
  obtain⟨b,r',e,h1,h2⟩:=Y0 h [] (by decide)
  refine⟨b,r',Dr ?_,h1,h2⟩
  unfold TG
  have hc:F3 ([]:AR) 58=some ([],[],false):=by
   rcases Vk [] 58 (by decide)with ⟨_,e⟩|⟨p,q,e,_⟩
   ·exact e
   ·simp at e
  rw[hc,Option.bind_some]
  dsimp only
  rw[if_pos (by decide),e];rfl
 |succ n ih=>
  intro s r l gp hs hn h
  rcases Vk s 58 (by omega)with ⟨hfree,hc⟩|⟨p,q,rfl,hfree,hc⟩
  ·obtain⟨b,r',e,h1,h2⟩:=Y0 h s (by omega)
   rw[IF hfree]
   refine⟨b,r',Dr ?_,h1,h2⟩
   unfold TG
   dsimp only
   rw[hc,Option.bind_some]
   dsimp only
   rw[if_pos (by decide),e];rfl
  ·have hpq:p.length+q.length+1≤n+1:=by simp at hs;omega
   rw[HB hfree]
   have h0:TG (p++58::q,r)=(Ed p).bind fun x85=>
     if(!decide (x85.2=0))=true then
     (some (false,r)).map fun r=> .inr (.inr r)
     else
     (putR r x85.1).bind (fun(p89:(Bool×A5))=>
     if(!p89.1)=true then
     (some (false,p89.2)).map fun r=> .inr (.inr r)
     else
     (CL q [58]).bind fun x99=>
     if(!x99)=true then
     some (.inl (q,p89.2))
     else
     if(decide (0≤p89.2.gap_))=true then
     (some (false,p89.2)).map fun r=> .inr (.inr r)
     else
     (Nv q (some 1) none).bind fun x105=>
     if(decide (x105=[]))=true then
     (some (true,{p89.2 with gap_:=p89.2.n_})).map fun r=> .inr (.inr r)
     else
     some (.inl (x105,{p89.2 with gap_:=p89.2.n_}))):=by
    unfold TG
    dsimp only
    rw[hc,Option.bind_some]
    rfl
   rw[Y7 p (by omega),Option.bind_some]at h0
   have hsplit: ∃u v,Bq 58 q=u::v:=List.exists_cons_of_ne_nil (Fd q)
   obtain⟨u,v,euv⟩:=hsplit
   rw[euv,cH]
   cases hg:cG p with
   |none=>
    rw[hg]at h0
    exact⟨false,r,Dr h0,fun e=>(by cases e),fun _=>rfl⟩
   |some x=>
    rw[hg]at h0
    dsimp only at h0 ⊢
    rw[if_neg (by simp)]at h0
    by_cases h8:l.length=8
    ·rw[PD h h8]at h0
     rw[if_pos h8]
     exact⟨false,r,Dr h0,fun e=>(by cases e),fun _=>rfl⟩
    ·obtain⟨r1,e1,hr1⟩:=Vf h h8 x
     rw[e1,Option.bind_some,jH]at h0
     rw[if_neg h8]
     simp only[Bool.not_true,Bool.false_eq_true,if_false,Option.bind_some]at h0
     by_cases hq:q.head?=some 58
     ·obtain⟨t,rfl⟩: ∃t,q=58::t:=by
       cases q with
       |nil=>cases hq
       |cons c t=>exact⟨t,by rw[Option.some.inj hq]⟩
      have ht:t.length≤n:=by simp at hpq;omega
      rw[Bq,if_pos rfl]at euv
      obtain⟨rfl,rfl⟩:=List.cons.inj euv
      rw[decide_eq_true hq]at h0
      simp only[Bool.not_true,Bool.false_eq_true,if_false]at h0
      rw[if_pos ⟨rfl,Fd t⟩]
      cases gp with
      |some g=>
       have hgap:r1.gap_=(g:Int):=hr1.2.2.2
       rw[if_pos (by rw[hgap,decide_eq_true_eq];omega)]at h0
       exact⟨false,r1,Dr h0,fun e=>(by cases e),fun _=>if_pos rfl⟩
      |none=>
       have hgap:r1.gap_= -1:=hr1.2.2.2
       rw[if_neg (by rw[hgap];decide),show((1:Int))=((1:Nat):Int)from rfl,MT (by simp),Option.bind_some]at h0
       have hd:(58::t).drop 1=t:=rfl
       rw[hd]at h0
       rw[if_neg (by simp)]
       have hr2:UY {r1 with gap_:=r1.n_} (l++[x]) (some (l.length+1)):=by
        refine⟨hr1.1,hr1.2.1,hr1.2.2.1,?_⟩
        show r1.n_=((l.length+1:Nat):Int)
        rw[hr1.1];simp
       by_cases h0':t=[]
       ·rw[if_pos (decide_eq_true h0')]at h0
        rw[if_pos ((Qr t).2 h0')]
        exact⟨true,_,Dr h0,fun _=>⟨_,_,rfl,hr2⟩,fun e=>(by cases e)⟩
       ·rw[if_neg (by rw[decide_eq_true_eq];exact h0')]at h0
        rw[if_neg (fun e=>h0' ((Qr t).1 e)),Hk h0]
        exact ih t _ _ _ ht (by omega) hr2
     ·rw[decide_eq_false hq]at h0
      simp only[Bool.not_false,if_true]at h0
      have hne: ¬(u=[]∧v≠[]):=by
       rintro⟨rfl,hv⟩
       cases q with
       |nil=>exact hv (List.cons.inj euv).2.symm
       |cons c t=>
        have hc58:c≠58:=fun e=>hq (by rw[e];rfl)
        obtain⟨a,r',e⟩:=Md (t:=t) hc58
        rw[e]at euv
        have:=(List.cons.inj euv).1
        cases this
      rw[if_neg hne,Hk h0,←euv]
      exact ih q _ _ _ (by omega) (by omega) hr1
end Go.Proofs.YtobejhpigbllpaaGreatDoor.Am
namespace Go.Proofs.YtobejhpigbllpaaGreatDoor.Am
theorem natI{σ β:Type}(n:Nat)(S:Nat→σ){F:σ→Option (σ⊕β)}{r:β}{s:σ}(h0:s=S 0)(h1: ∀i,i<n→F (S i)=some (.inl (S (i+1))))(h2:F (S n)=some (.inr r)):iter F s=some r:=by
 subst h0
 have key: ∀k,k≤n→iter F (S (n-k))=some r:=by
  intro k
  induction k with
  |zero=>intro _;exact Dr h2
  |succ k ih=>
   intro hk
   rw[Hk (h1 (n-(k+1)) (by omega)),show n-(k+1)+1=n-k by omega]
   exact ih (by omega)
 have:=key n (Nat.le_refl _)
 rwa [Nat.sub_self]at this
def Nn(s:AR):Option (List Nat×Option Nat):=
 if s.take 2=[58,58]then(if s.drop 2=[]then some ([],some 0)else cH (some 0) [] (Bq 58 (s.drop 2)))else cH none [] (Bq 58 s)
def hY(l:List Nat):Option Nat→Option (List Nat)
 |none=>if l.length=8 then some l else none
 |some g=>if l.length=8 then none else some (l.take g++List.replicate (8-l.length) 0++l.drop g)
theorem kT{s b:AR}(h:H9 s=some ([],b)):s=58::58::b:=by
 match s,h with
 |[],h=>simp[H9]at h
 |[_],h=>simp[H9]at h
 |x::y::r,h=>
  rw[H9]at h
  split at h
  ·rename_i hc
   obtain⟨rfl,rfl⟩:=hc
   cases h;rfl
  ·obtain⟨q,_,hq⟩:=Option.map_eq_some_iff.1 h
   cases hq
theorem rS{s:AR}(h:s.take 2=[58,58]):s=58::58::s.drop 2:=by
 have:=List.take_append_drop 2 s
 rw[h]at this
 exact this.symm
theorem hU(s:AR):(∀l gp,Nn s=some (l,gp)→l.length≤8∧ ∀g,gp=some g→g≤l.length)∧hX s=(match Nn s with|none=>none|some (l,gp)=>(hY l gp).map T5):=by
 unfold Nn hX
 by_cases h2:s.take 2=[58,58]
 ·rw[if_pos h2]
  have hs:=rS h2
  generalize s.drop 2=b at hs ⊢
  subst hs
  rw[nP]
  by_cases hb:b=[]
  ·rw[if_pos hb]
   subst hb
   refine⟨fun l gp h=> ?_,rfl⟩
   cases h
   exact⟨by simp,fun g h=>(by cases h;simp)⟩
  ·rw[if_neg hb,ZJ _ _ _ (Fd b) (by simp)]
   have e1:Oz false []=some []:=rfl
   have e2:Oz true b=E6 true (Bq 58 b):=by unfold Oz;rw[if_neg hb]
   dsimp only
   rw[e1,e2]
   cases E6 true (Bq 58 b)with
   |none=>exact⟨fun l gp h=>(by cases h),rfl⟩
   |some m=>
    simp only[Option.bind_some,List.length_nil,Nat.zero_add,List.nil_append]
    by_cases h8:m.length≤8
    ·rw[if_pos h8]
     refine⟨fun l gp h=> ?_,?_⟩
     ·cases h
      exact⟨h8,fun g h=>(by cases h;omega)⟩
     ·unfold hY
      dsimp only
      by_cases h7:m.length=8
      ·rw[if_pos h7,if_neg (by omega)];rfl
      ·rw[if_neg h7,if_pos (by omega)]
       simp
    ·rw[if_neg h8,if_neg (by omega)]
     exact⟨fun l gp h=>(by cases h),rfl⟩
 ·rw[if_neg h2,sO s.length s [] (Nat.le_refl _) (by simp)]
  cases hg:H9 s with
  |none=>
   dsimp only
   have e1:Oz true s=if s=[]then some []else E6 true (Bq 58 s):=rfl
   rw[e1]
   by_cases h0:s=[]
   ·subst h0
    rw[if_pos rfl]
    have e2:E6 true (Bq 58 [])=none:=rfl
    rw[e2]
    exact⟨fun l gp h=>(by cases h),rfl⟩
   ·rw[if_neg h0]
    cases E6 true (Bq 58 s)with
    |none=>exact⟨fun l gp h=>(by cases h),rfl⟩
    |some m=>
     simp only[Option.bind_some,List.length_nil,Nat.zero_add,List.nil_append]
     by_cases h8:m.length≤8
     ·rw[if_pos h8]
      refine⟨fun l gp h=> ?_,?_⟩
      ·cases h
       exact⟨h8,fun g h=>(by cases h)⟩
      ·unfold hY
       dsimp only
       by_cases h7:m.length=8
       ·rw[if_pos h7,if_pos h7];rfl
       ·rw[if_neg h7,if_neg h7];rfl
     ·rw[if_neg h8,if_neg (by omega)]
      exact⟨fun l gp h=>(by cases h),rfl⟩
  |some q=>
   obtain⟨a,b⟩:=q
   dsimp only
   have ha:a≠[]:=by
    rintro rfl
    have:=kT hg
    rw[this]at h2
    exact h2 rfl
   have e1:Oz false a=E6 false (Bq 58 a):=by unfold Oz;rw[if_neg ha]
   have e2:Oz true b=if b=[]then some []else E6 true (Bq 58 b):=rfl
   rw[e1,e2]
   cases E6 false (Bq 58 a)with
   |none=>exact⟨fun l gp h=>(by cases h),rfl⟩
   |some m=>
    simp only[Option.bind_some]
    unfold Xl
    simp only[List.length_nil,Nat.zero_add,List.nil_append]
    by_cases h8:m.length≤8
    ·rw[if_pos h8]
     by_cases hb:b=[]
     ·rw[if_pos hb,if_pos hb]
      refine⟨fun l gp h=> ?_,?_⟩
      ·cases h
       exact⟨h8,fun g h=>by cases h;exact Nat.le_refl _⟩
      ·unfold hY
       simp only[Option.bind_some,List.length_nil,Nat.add_zero,List.take_length,List.drop_length]
       by_cases h7:m.length=8
       ·rw[if_pos h7,if_neg (by omega)];rfl
       ·rw[if_neg h7,if_pos (by omega)];simp
     ·rw[if_neg hb,if_neg hb]
      cases E6 true (Bq 58 b)with
      |none=>exact⟨fun l gp h=>(by cases h),rfl⟩
      |some m'=>
       simp only[Option.bind_some]
       by_cases h9:m.length+m'.length≤8
       ·rw[if_pos h9]
        refine⟨fun l gp h=> ?_,?_⟩
        ·cases h
         exact⟨by simpa using h9,fun g h=>(by cases h;simp)⟩
        ·unfold hY
         simp only[List.length_append,List.take_left',List.drop_left']
         by_cases h7:m.length+m'.length=8
         ·rw[if_pos h7,if_neg (by omega)];rfl
         ·rw[if_neg h7,if_pos (by omega),show 8-(m.length+m'.length)=8-m.length-m'.length by omega];rfl
       ·rw[if_neg h9,if_neg (by omega)]
        exact⟨fun l gp h=>(by cases h),rfl⟩
    ·rw[if_neg h8]
     refine⟨fun l gp h=>(by cases h),?_⟩
     by_cases hb:b=[]
     ·rw[if_pos hb]
      simp only[Option.bind_some,List.length_nil]
      rw[if_neg (by omega)]
     ·rw[if_neg hb]
      cases E6 true (Bq 58 b)with
      |none=>rfl
      |some m'=>
       simp only[Option.bind_some]
       rw[if_neg (by omega)]
noncomputable def sN(a0:AR):Option (Bool×A5):=
 (CL a0 [58,58]).bind fun x4=>
 (if x4=true then
 let x107:={(⟨(T.arr 8 T.u16).z,0,(-1)⟩:A5)with gap_:=0}
 (Nv a0 (some 2) none).bind fun x108=>
 if(decide (x108=[]))=true then
 (some (true,x107)).map fun r=> .inr r
 else
 some (.inl (x108,x107))
 else
 some (.inl (a0,(⟨(T.arr 8 T.u16).z,0,(-1)⟩:A5))):Option ((AR×A5)⊕_)).bind (Sum.elim (fun(p5:(AR×A5))=>
 (iter TG (p5.1,p5.2)).bind (Sum.elim (fun _:Empty=>none) some)) some)
theorem pC(s:AR)(hl:s.length<1073741824): ∃b r',sN s=some (b,r')∧(b=true→ ∃l' gp',Nn s=some (l',gp')∧UY r' l' gp')∧(b=false→Nn s=none):=by
 unfold sN Nn
 rw[VZ,Option.bind_some]
 have ok0:UY (⟨(T.arr 8 T.u16).z,0,0⟩:A5) [] (some 0):=⟨rfl,by simp,rfl,rfl⟩
 have ok1:UY (⟨(T.arr 8 T.u16).z,0,-1⟩:A5) [] none:=⟨rfl,by simp,rfl,rfl⟩
 have hlen:([58,58]:AR).length=2:=rfl
 rw[hlen]
 by_cases h2:s.take 2=[58,58]
 ·have h2l:2≤s.length:=by have:=congrArg List.length h2;rw[List.length_take]at this;simp at this;omega
  rw[if_pos (decide_eq_true h2),if_pos h2]
  dsimp only
  rw[show(2:Int)=((2:Nat):Int)from rfl,MT h2l,Option.bind_some]
  by_cases hb:s.drop 2=[]
  ·rw[if_pos (decide_eq_true hb),if_pos hb]
   exact⟨true,_,rfl,fun _=>⟨_,_,rfl,ok0⟩,fun e=>(by cases e)⟩
  ·rw[if_neg (by rw[decide_eq_true_eq];exact hb),if_neg hb]
   obtain⟨b,r',e,q1,q2⟩:=Xc s.length (s.drop 2) _ [] (some 0) (by simp) hl ok0
   refine⟨b,r',?_,q1,q2⟩
   rw[Option.bind_some]
   show(iter TG (s.drop 2,_)).bind _=_
   rw[e];rfl
 ·rw[if_neg (by rw[decide_eq_true_eq];exact h2),if_neg h2]
  obtain⟨b,r',e,q1,q2⟩:=Xc s.length s _ [] none (Nat.le_refl _) hl ok1
  refine⟨b,r',?_,q1,q2⟩
  rw[Option.bind_some]
  show(iter TG (s,_)).bind _=_
  rw[e];rfl
noncomputable def Z0(r:A5):Option ((Ar UInt16 8)×Bool):=
 if(decide (r.gap_<0))=true then
 some (r.g_,decide (r.n_=8))
 else
 if(decide (r.n_=8))=true then
 some (r.g_,false)
 else
 ((PW 8 none (some r.gap_)).map fun p=>p.2).bind fun x126=>
 (if 0+x126≤8 then UQ ((T.arr 8 T.u16).z) 0 8 ((r.g_.l.drop 0).take x126)else none).bind fun x127=>
 let x131:=IntKind.i64.wrap (IntKind.i64.wrap (8-r.n_)+r.gap_)
 (PW 8 (some x131) none).bind fun x132=>
 (PW 8 (some r.gap_) (some r.n_)).bind fun x135=>
 (if x135.1+(x135.2-x135.1)≤8 then UQ x127 x132.1 (x132.2-x132.1) ((r.g_.l.drop x135.1).take (x135.2-x135.1))else none).bind fun x136=>
 some (x136,true)
abbrev zG:Ar UInt16 8:=(T.arr 8 T.u16).z
theorem z8:zG.l=List.replicate 8 0:=rfl
theorem cU{r:A5}{l:List Nat}{gp:Option Nat}(h:UY r l gp)(hg: ∀g,gp=some g→g≤l.length): ∃G b,Z0 r=some (G,b)∧(b=true→ ∃L,hY l gp=some L∧L.length=8∧G.l=L.map UInt16.ofNat)∧(b=false→hY l gp=none):=by
 obtain⟨h1,h2,h3,h4⟩:=h
 unfold Z0 hY
 cases gp with
 |none=>
  have h4':r.gap_= -1:=h4
  rw[h4',if_pos (by decide),h1]
  dsimp only
  by_cases h8:l.length=8
  ·rw[if_pos h8]
   refine⟨_,_,rfl,fun _=>⟨l,rfl,h8,?_⟩,fun e=> ?_⟩
   ·rw[←h3,List.take_of_length_le (by rw[r.g_.len];omega)]
   ·rw[decide_eq_false_iff_not]at e;omega
  ·rw[if_neg h8]
   refine⟨_,_,rfl,fun e=> ?_,fun _=>rfl⟩
   rw[decide_eq_true_eq]at e;omega
 |some g=>
  have hgl:=hg g rfl
  have h4':r.gap_=(g:Int):=h4
  rw[h4',if_neg (by rw[decide_eq_true_eq];omega),h1]
  dsimp only
  by_cases h8:l.length=8
  ·rw[if_pos (by rw[h8];rfl),if_pos h8]
   exact⟨_,_,rfl,fun e=>(by cases e),fun _=>rfl⟩
  ·rw[if_neg (by rw[decide_eq_true_eq];omega),if_neg h8]
   have hgt:r.g_.l.take g=(l.take g).map UInt16.ofNat:=by
    rw[List.map_take,←h3,List.take_take,Nat.min_eq_left hgl]
   have hgd:(r.g_.l.drop g).take (l.length-g)=(l.drop g).map UInt16.ofNat:=by
    rw[List.map_drop,←h3,List.drop_take]
   have hc1:(if 0+g≤8 then UQ zG 0 8 ((r.g_.l.drop 0).take g)else none)=some (⟨(l.take g).map UInt16.ofNat++List.replicate (8-g) 0,by simp;omega⟩:Ar UInt16 8):=by
    rw[if_pos (by omega),List.drop_zero,hgt]
    unfold UQ
    rw[dif_pos (by omega)]
    congr 1
    apply Ar.ext
    show zG.l.take 0++_++zG.l.drop _=_
    rw[z8]
    simp only[List.take_zero,List.nil_append,List.length_map,List.length_take,List.drop_replicate]
    rw[List.take_of_length_le (by simp;omega)]
    congr 2
    omega
   have hc2: ∀k,k=8-l.length+g→(if g+(l.length-g)≤8 then UQ (⟨(l.take g).map UInt16.ofNat++List.replicate (8-g) 0,by simp;omega⟩:Ar UInt16 8) k (8-k) ((r.g_.l.drop g).take (l.length-g))else none)=some (⟨(l.take g++List.replicate (8-l.length) 0++l.drop g).map UInt16.ofNat,by simp;omega⟩:Ar UInt16 8):=by
    rintro k rfl
    rw[if_pos (by omega),hgd]
    unfold UQ
    rw[dif_pos (by omega)]
    congr 1
    apply Ar.ext
    have e1:((l.take g).map UInt16.ofNat).length=g:=by rw[List.length_map,List.length_take];omega
    have A1:((l.take g).map UInt16.ofNat++List.replicate (8-g) 0).take (8-l.length+g)=(l.take g).map UInt16.ofNat++List.replicate (8-l.length) 0:=by
     rw[List.take_append,e1,List.take_of_length_le (by rw[e1];omega),List.take_replicate,show min (8-l.length+g-g) (8-g)=8-l.length by omega]
    have A2: ∀m,8≤m→((l.take g).map UInt16.ofNat++List.replicate (8-g) 0).drop m=[]:=fun m hm=>List.drop_eq_nil_of_le (by simp;omega)
    have A3:((l.drop g).map UInt16.ofNat).take (8-(8-l.length+g))=(l.drop g).map UInt16.ofNat:=List.take_of_length_le (by simp;omega)
    show((l.take g).map UInt16.ofNat++List.replicate (8-g) 0).take (8-l.length+g)++((l.drop g).map UInt16.ofNat).take (8-(8-l.length+g))++((l.take g).map UInt16.ofNat++List.replicate (8-g) 0).drop _=(l.take g++List.replicate (8-l.length) 0++l.drop g).map UInt16.ofNat
    rw[A1,A3,A2 _ (by simp;omega),List.append_nil,List.map_append,List.map_append,List.map_replicate]
    rfl
   refine⟨(⟨(l.take g++List.replicate (8-l.length) 0++l.drop g).map UInt16.ofNat,by simp;omega⟩:Ar UInt16 8),true,?_,fun _=>⟨_,rfl,by simp;omega,rfl⟩,fun e=>(by cases e)⟩
   refine(congrArg (fun x:Option Nat=>x.bind _) (lW (n:=8) (m:=g) (by omega))).trans ?_
   refine(congrArg (fun x:Option (Ar UInt16 8)=>x.bind _) hc1).trans ?_
   have hw:IntKind.i64.wrap (IntKind.i64.wrap (8-(l.length:Int))+(g:Int))=((8-l.length+g:Nat):Int):=by
    rw[show(8:Int)-(l.length:Int)=((8-l.length:Nat):Int) by omega,BF (by omega),show((8-l.length:Nat):Int)+(g:Int)=((8-l.length+g:Nat):Int) by omega,BF (by omega)]
   refine(congrArg (fun x:Int=>(PW 8 (some x) none).bind _) hw).trans ?_
   refine(congrArg (fun x:Option (Nat×Nat)=>x.bind _) (iC (n:=8) (a:=8-l.length+g) (by omega))).trans ?_
   refine(congrArg (fun x:Option (Nat×Nat)=>x.bind _) (iD (n:=8) hgl (by omega))).trans ?_
   exact(congrArg (fun x:Option (Ar UInt16 8)=>x.bind _) (hc2 _ rfl)).trans rfl
end Go.Proofs.YtobejhpigbllpaaGreatDoor.Am
namespace Go.Proofs.YtobejhpigbllpaaGreatDoor.Am
def fY(L:List Nat):Nat→Ar UInt8 16
 |0=>(T.arr 16 T.u8).z
 |i+1=>((fY L i).set (2*i) (UInt8.ofNat (L.getD i 0/256))).set (2*i+1) (UInt8.ofNat (L.getD i 0%256))
theorem fX{L:List Nat}(h:L.length=8):fY L 8=iG (T5 L):=by
 match L,h with
 |[a,b,c,d,e,f,g,k],_=>rfl
theorem Aa4(n:Nat):MB ((CM (Int.fdiv ((UInt16.ofNat n).toNat:Int) 256)).toNat:Int)=UInt8.ofNat (n/256):=by
 have h:=(UInt16.ofNat n).toNat_lt
 have e:Int.fdiv ((UInt16.ofNat n).toNat:Int) 256=(((UInt16.ofNat n).toNat/256:Nat):Int):=by
  rw[Int.fdiv_eq_ediv_of_nonneg _ (by decide)];rfl
 rw[e,Kc (by omega),UInt16.toNat_ofNat']
 apply UInt8.toNat_inj.1
 show(UInt8.ofNat _).toNat=_
 rw[UInt8.toNat_ofNat',UInt8.toNat_ofNat'];omega
theorem zZ(n:Nat):MB ((UInt16.ofNat n).toNat:Int)=UInt8.ofNat (n%256):=by
 rw[UInt16.toNat_ofNat']
 apply UInt8.toNat_inj.1
 show(UInt8.ofNat _).toNat=_
 rw[UInt8.toNat_ofNat',UInt8.toNat_ofNat'];omega
noncomputable def mR(G:Ar UInt16 8)(s148:Int×(Ar UInt8 16)):Option ((Int×(Ar UInt8 16))⊕((Ar UInt8 16)⊕((Ar UInt8 16)×Int))):=
 if(decide (s148.1<8))=true then
 (Hb G.l s148.1).bind fun x151=>
 let x154:=IntKind.i64.wrap (IntKind.i64.wrap (2*s148.1)+1)
 (if((8:UInt64).toNat:Int)<0 then none else some (CM (Int.fdiv (x151.toNat:Int) (2^(min ((8:UInt64).toNat:Int).toNat 16))))).bind fun x155=>
 (Dl 16 (IntKind.i64.wrap (2*s148.1))).bind fun x158=>
 (if x158<16 then some (s148.2.set x158 (MB (x155.toNat:Int)))else none).bind fun x159=>
 (Dl 16 x154).bind fun x160=>
 (if x160<16 then some (x159.set x160 (MB (x151.toNat:Int)))else none).bind fun x161=>
 some (.inl (IntKind.i64.wrap (s148.1+1),x161))
 else
 some (.inr (.inl s148.2))
theorem oU{G:Ar UInt16 8}{L:List Nat}(hL:L.length=8)(hG:G.l=L.map UInt16.ofNat){i:Nat}(hi:i<8):mR G ((i:Int),fY L i)=some (.inl (((i+1:Nat):Int),fY L (i+1))):=by
 have e8:(2:Int)^(min ((8:UInt64).toNat:Int).toNat 16)=256:=by decide
 have eg:L.getD i 0=L[i]'(by omega):=by rw[List.getD_eq_getElem?_getD,List.getElem?_eq_getElem (by omega)];rfl
 unfold mR
 dsimp only
 rw[if_pos (by rw[decide_eq_true_eq];omega),DH,hG,List.getElem?_map,List.getElem?_eq_getElem (by omega),Option.map_some,Option.bind_some,←eg]
 rw[if_neg (by decide),Option.bind_some,e8]
 rw[show(2:Int)*(i:Int)=((2*i:Nat):Int) by omega,BF (by omega),CN (by omega),Option.bind_some,if_pos (by omega),Option.bind_some,show((2*i:Nat):Int)+1=((2*i+1:Nat):Int) by omega,BF (by omega),CN (by omega),Option.bind_some,if_pos (by omega),Option.bind_some,Aa4,zZ,show(i:Int)+1=((i+1:Nat):Int) by omega,BF (by omega)]
 rfl
theorem lU{G:Ar UInt16 8}{L:List Nat}(hL:L.length=8)(hG:G.l=L.map UInt16.ofNat):iter (mR G) (0,(T.arr 16 T.u8).z)=some (.inl (iG (T5 L))):=by
 rw[←fX hL]
 refine natI 8 (fun i=>((i:Int),fY L i)) rfl (fun i hi=>oU hL hG hi) ?_
 rfl
theorem Xd(s:AR):Mu s=(sN s).bind fun p3=>if(!p3.1)=true then some ((T.arr 16 T.u8).z,5)else(Z0 p3.2).bind fun p113=>if(!p113.2)=true then some ((T.arr 16 T.u8).z,5)else(iter (mR p113.1) (0,(T.arr 16 T.u8).z)).bind (Sum.elim (fun p=>some (p,(0:Int))) some):=rfl
theorem hJ(s:AR)(hl:s.length<1073741824):Mu s=some (match hX s with|some l=>(iG l,0)|none=>((T.arr 16 T.u8).z,5)):=by
 obtain⟨hc1,hc2⟩:=hU s
 obtain⟨b,r,e,q1,q2⟩:=pC s hl
 rw[Xd,e,Option.bind_some,hc2]
 cases b with
 |false=>rw[q2 rfl];rfl
 |true=>
  obtain⟨l,gp,h1,h2⟩:=q1 rfl
  obtain⟨G,b',e',w1,w2⟩:=cU h2 (hc1 l gp h1).2
  rw[h1]
  dsimp only
  rw[if_neg (by decide),e',Option.bind_some]
  cases b' with
  |false=>rw[w2 rfl];rfl
  |true=>
   obtain⟨L,z1,z2,z3⟩:=w1 rfl
   rw[z1]
   dsimp only
   rw[if_neg (by decide),lU z2 z3]
   rfl
theorem oF(l:AR)(c:UInt8)(hl:l.length<1099511627776):F3 l c=some (UP c l):=by
 rcases Vk l c hl with ⟨h,e⟩|⟨p,q,rfl,h,e⟩
 ·have:c∉l:=fun h'=>h c h' rfl
  rw[e];unfold UP;rw[if_neg this]
 ·have:c∉p:=fun h'=>h c h' rfl
  rw[e,gZ this]
theorem gY(l:AR)(c:UInt8):(UP c l).2.2=decide (c∈l):=by
 unfold UP
 by_cases h:c∈l
 ·rw[if_pos h,decide_eq_true h]
 ·rw[if_neg h,decide_eq_false h]
theorem rG(a:Ar UInt8 4):JZ a=some ⟨4,iG (a.l++List.replicate 12 0)⟩:=by
 obtain⟨l,h⟩:=a
 match l,h with
 |[a,b,c,d],_=>rfl
theorem mD(s:AR)(hl:s.length<1073741824):Oq s=some (S1 s):=by
 unfold Oq S1
 rw[oF s 58 (by omega),Option.bind_some,gY]
 by_cases h:(58:UInt8)∈s
 ·rw[if_pos (decide_eq_true h),if_pos h,hJ s hl,Option.bind_some]
  cases hX s with
  |none=>rfl
  |some l=>rfl
 ·rw[if_neg (by rw[decide_eq_true_eq];exact h),if_neg h,VV s hl,Option.bind_some]
  unfold nB
  dsimp only
  by_cases hq:(Em s).2=0
  ·rw[if_neg (by simp[hq]),if_pos hq,rG]
   unfold ar4
   rw[dif_pos (Y9 s)]
   rfl
  ·rw[if_pos (by simp[hq]),if_neg hq]
   rfl
theorem YA(a b:UInt8)(r:AR):List.isPrefixOf ([93,58]:AR) (a::b::r)=decide (a=93∧b=58):=by
 by_cases h:a=93∧b=58
 ·obtain⟨rfl,rfl⟩:=h;simp[List.isPrefixOf]
 ·rw[decide_eq_false h]
  simp only[List.isPrefixOf,Bool.and_true,Bool.and_eq_false_iff,beq_eq_false_iff_ne]
  rcases Classical.not_and_iff_not_or_not.1 h with h|h
  ·exact .inl fun e=>h e.symm
  ·exact .inr fun e=>h e.symm
theorem QX: ∀s:AR,(Rl s=none∧Lib.index s [93,58]= -1)∨ ∃p q,s=p++93::58::q∧Rl s=some (p,q)∧Lib.index s [93,58]=(p.length:Int)
 |[]=> .inl ⟨rfl,rfl⟩
 |[a]=> .inl ⟨rfl,by simp[Lib.index,List.isPrefixOf]⟩
 |a::b::r=>by
  by_cases h:a=93∧b=58
  ·obtain⟨rfl,rfl⟩:=h
   exact .inr ⟨[],r,rfl,by rw[Rl,if_pos ⟨rfl,rfl⟩],by rw[Lib.index,if_pos (by rw[YA];rfl)];rfl⟩
  ·have hp: ¬List.isPrefixOf ([93,58]:AR) (a::b::r)=true:=by rw[YA,decide_eq_true_eq];exact h
   rcases QX (b::r)with ⟨h1,h2⟩|⟨p,q,h1,h2,h3⟩
   ·exact .inl ⟨by rw[Rl,if_neg h,h1];rfl,by rw[Lib.index,if_neg hp,h2];rfl⟩
   ·refine .inr ⟨a::p,q,by rw[h1];rfl,by rw[Rl,if_neg h,h2];rfl,?_⟩
    rw[Lib.index,if_neg hp,h3,if_neg (by rw[beq_iff_eq];omega)]
    simp
theorem wK(s:AR)(hl:s.length<1073741824):Mc s [93,58]=some (match Rl s with|none=>(s,[],false)|some (p,q)=>(p,q,true)):=by
 have hi:Cg s [93,58]=some (Lib.index s [93,58]):=by
  unfold Cg indexS
  rw[if_pos (by omega)]
 unfold Mc FT
 rw[hi,Option.bind_some]
 rcases QX s with ⟨h1,h2⟩|⟨p,q,h1,h2,h3⟩
 ·rw[h1,h2];rfl
 ·rw[h2,h3,if_pos (by rw[decide_eq_true_eq];omega)]
  have hlen:s.length=p.length+(q.length+2):=by rw[h1];simp
  have e2:(([93,58]:AR).length:Int)=2:=rfl
  rw[Vb (by omega),Option.bind_some,e2,show(p.length:Int)+2=((p.length+2:Nat):Int) by omega,BF (by omega),MT (by omega),Option.bind_some,h1]
  have a1:(p++93::58::q).take p.length=p:=List.take_left
  have a2:(p++93::58::q).drop (p.length+2)=q:=by
   rw[←List.drop_drop,List.drop_left];rfl
  rw[a1,a2]
  rfl
theorem wJ(s:AR)(hl:s.length<1073741824):Hz s [91]=some (if s.head?=some 91 then(s.drop 1,true)else(s,false)):=by
 have hp:BY s [91]=some (decide (s.head?=some 91)):=by
  cases s with
  |nil=>rfl
  |cons a r=>
   unfold BY
   rw[show decide ((([91]:AR).length:Int)≤((a::r).length:Int))=true from decide_eq_true (by simp only[List.length_cons,List.length_nil];omega),show(([91]:AR).length:Int)=((1:Nat):Int)from rfl,Vb (by simp)]
   show some (decide ([a]=[91]))=_
   congr 1
   simp
 unfold Hz Et
 rw[hp,Option.bind_some]
 by_cases h:s.head?=some 91
 ·have hn:1≤s.length:=by cases s with
   |nil=>simp at h
   |cons a r=>simp
  rw[if_neg (by rw[decide_eq_true h];decide),if_pos h,show(([91]:AR).length:Int)=((1:Nat):Int)from rfl,MT hn]
  rfl
 ·rw[if_pos (by rw[decide_eq_false h];decide),if_neg h]
  rfl
theorem wL{s p q:AR}(h:Rl s=some (p,q)):p.length+q.length≤s.length:=by
 rcases QX s with ⟨h1,_⟩|⟨p',q',h1,h2,_⟩
 ·rw[h1]at h;cases h
 ·rw[h2]at h;cases h
  have:=congrArg List.length h1
  simp at this;omega
theorem kO(s:AR)(hl:s.length<1073741824): ∃a b c,Iw s=some (a,b,c)∧TV s=(if c=true then some (a,b)else none)∧a.length≤s.length∧b.length≤s.length:=by
 unfold Iw TV
 rw[wJ s hl,Option.bind_some]
 by_cases h:s.head?=some 91
 ·rw[if_pos h,if_pos h]
  dsimp only
  rw[if_pos rfl,wK _ (by simp;omega),Option.bind_some]
  cases hc:Rl (s.drop 1)with
  |none=>exact⟨_,_,_,rfl,rfl,by simp,by simp⟩
  |some pq=>
   obtain⟨p,q⟩:=pq
   have hlen:=wL hc
   rw[List.length_drop]at hlen
   dsimp only
   refine⟨p,q,decide (58∈p),?_,?_,by omega,by omega⟩
   ·rw[Yp p 58 (by omega)];rfl
   ·rw[Option.bind_some]
    by_cases hm:(58:UInt8)∈p
    ·rw[if_pos hm,if_pos (decide_eq_true hm)]
    ·rw[if_neg hm,if_neg (by rw[decide_eq_true_eq];exact hm)]
 ·rw[if_neg h,if_neg h]
  dsimp only
  rw[if_neg (by decide)]
  have hi:Hb ([58]:AR) 0=some 58:=rfl
  rw[hi,Option.bind_some,oF s 58 (by omega),Option.bind_some]
  refine⟨_,_,_,rfl,?_,?_,?_⟩
  ·rw[gY]
   by_cases hm:(58:UInt8)∈s
   ·rw[if_pos hm,if_pos (decide_eq_true hm)]
   ·rw[if_neg hm,if_neg (by rw[decide_eq_true_eq];exact hm)]
  ·unfold UP
   split
   ·exact List.Sublist.length_le (List.takeWhile_sublist _)
   ·exact Nat.le_refl _
  ·unfold UP
   split
   ·have:=List.Sublist.length_le (List.dropWhile_sublist (l:=s) (fun x=>x != 58))
    simp only[List.length_drop];omega
   ·simp
theorem W9(s:AR)(hl:s.length<1073741824):Gq s=some (nM s):=by
 obtain⟨a,b,c,h1,h2,h3,h4⟩:=kO s hl
 unfold Gq nM
 rw[h1,Option.bind_some,h2]
 cases c with
 |false=>rfl
 |true=>
  rw[if_pos rfl]
  dsimp only
  rw[if_neg (by decide),mD a (by omega),Option.bind_some]
  by_cases ha:(S1 a).2=0
  ·rw[if_neg (by simp[ha]),if_pos ha,NP b _ (by omega),Option.bind_some]
   unfold gW
   have em:(65535:UInt64).toNat=65535:=rfl
   rw[em]
   dsimp only
   by_cases hd:(Ft b 65535).2=0
   ·have hb:(Ft b 65535).1≤65535:=by
     unfold Ft at hd ⊢
     split
     ·simp
     ·split
      ·simp
      ·dsimp only;omega
    rw[if_neg (by simp[hd]),if_pos hd]
    have et:(UInt64.ofNat (Ft b 65535).1).toNat=(Ft b 65535).1:=by rw[UInt64.toNat_ofNat'];omega
    rw[et]
    by_cases h0:(Ft b 65535).1=0
    ·rw[if_pos (by rw[decide_eq_true_eq,h0];rfl),if_pos h0];rfl
    ·rw[if_neg (by rw[decide_eq_true_eq];intro e;exact h0 (Int.ofNat.inj e)),if_neg h0,BF (by omega)]
   ·rw[if_pos (by simp[hd]),if_neg hd];rfl
  ·rw[if_pos (by simp[ha]),if_neg ha];rfl
end Go.Proofs.YtobejhpigbllpaaGreatDoor.Am
namespace Go.Proofs.YtobejhpigbllpaaGreatDoor.Am
theorem cmpK1(x y:Ar UInt8 32):Yq (F1.arr 32 F1.u8) x y=decide (x=y):=
 if h:x=y then(Xe (t:=T.arr 32 T.u8) h).trans (decide_eq_true h).symm else(bN (t:=T.arr 32 T.u8) h).trans (decide_eq_false h).symm
theorem PY{α:Type}{bytes:Nat}{l m:List α}(h:(l.length+m.length)*bytes≤B4):Sx bytes (GS.mk l) m=some (.mk (l++m)):=by
 unfold Sx
 rw[Lx,if_pos h]
 rfl
theorem lT(a b:List UInt8)(hl:a.length=b.length)(hb:a.length<4611686018427387904): ∀k i,a.length=i+k→a.take i=b.take i→
  iter (fun(s4:Int)=>
   if(decide (s4<(a.length:Int)))=true then
   (Hb a s4).bind fun x8=>
   (Hb b s4).bind fun x10=>
   if(!decide ((x8.toNat:Int)=(x10.toNat:Int)))=true then
   (some false).map fun r=> .inr (.inr r)
   else
   some (.inl (IntKind.i64.wrap (s4+1)))
   else
   some (.inr (.inl ()))) (i:Int)=some (if a=b then(.inl ():Unit⊕Bool)else .inr false):=by
 intro k
 induction k with
 |zero=>
  intro i hk ht
  have hab:a=b:=by rw[List.take_of_length_le (by omega),List.take_of_length_le (by omega)]at ht;exact ht
  rw[if_pos hab,Dr (b:= .inl ())]
  rw[if_neg (by rw[decide_eq_true_eq];omega)]
 |succ k ih=>
  intro i hk ht
  have h1:i<a.length:=by omega
  have h2:i<b.length:=by omega
  by_cases h:a[i]=b[i]
  ·rw[Hk (s':=((i+1:Nat):Int)),ih (i+1) (by omega) (by rw[List.take_succ_eq_append_getElem h1,List.take_succ_eq_append_getElem h2,ht,h])]
   rw[if_pos (by rw[decide_eq_true_eq];omega),DH,List.getElem?_eq_getElem h1,Option.bind_some,DH,List.getElem?_eq_getElem h2,Option.bind_some,if_neg (by rw[h];simp),show(i:Int)+1=((i+1:Nat):Int) by omega,BF (by omega)]
  ·have hab:a≠b:=fun e=>h (by subst e;rfl)
   rw[if_neg hab,Dr (b:= .inr false)]
   rw[if_pos (by rw[decide_eq_true_eq];omega),DH,List.getElem?_eq_getElem h1,Option.bind_some,DH,List.getElem?_eq_getElem h2,Option.bind_some,if_pos]
   ·rfl
   ·have: ¬((a[i].toNat:Int)=(b[i].toNat:Int)):=fun e=>h (UInt8.toNat_inj.1 (Int.ofNat.inj e))
    rw[decide_eq_false this];rfl
theorem sU(a b:GS UInt8)(hb:a.l.length<4611686018427387904):RD a b=some (decide (a.l=b.l)):=by
 unfold RD
 by_cases hl:a.l.length=b.l.length
 ·dsimp only
  rw[if_neg (by rw[decide_eq_true (by omega:((a.l.length:Int)=(b.l.length:Int)))];decide)]
  refine(congrArg (fun x:Option (Unit⊕Bool)=>x.bind _) (lT a.l b.l hl hb a.l.length 0 (by omega) rfl)).trans ?_
  by_cases h:a.l=b.l
  ·rw[if_pos h,decide_eq_true h];rfl
  ·rw[if_neg h,decide_eq_false h];rfl
 ·dsimp only
  have h: ¬a.l=b.l:=fun e=>hl (by rw[e])
  rw[if_pos (by rw[decide_eq_false (by omega: ¬((a.l.length:Int)=(b.l.length:Int)))];rfl),decide_eq_false h]
def GZ(a b:Ao):Bool:=decide (a.Kind=b.Kind)&&(decide (a.Bytes.l=b.Bytes.l)&&(decide (a.To=b.To)&&(decide (a.Key=b.Key)&&decide (a.Why=b.Why))))
theorem and5'(a b c d e:Bool):((Cy a ((some b).bind fun x=>some x)).bind fun x=>(Cy x (some c)).bind fun x=>(Cy x (some d)).bind fun x=>(Cy x (some e)).bind fun x=>some x)=some (a&&(b&&(c&&(d&&e)))):=by cases a<;>cases b<;>cases c<;>cases d<;>cases e<;>rfl
theorem VH(a b:Ao):FO a b=some (GZ a b):=by
 unfold FO GZ P1
 rw[cmpE,cmpK1]
 exact and5' _ _ _ _ _
theorem TL(a b:Ao)(h:a.Bytes.l.length<4611686018427387904):MZ a b=some (GZ a b):=by
 unfold MZ GZ
 rw[cmpE,cmpK1,sU _ _ h]
 exact and5' _ _ _ _ _
def OF(e:Ao):Bool:=
 if e.Kind=1∨e.Kind=4 then decide (e.To=Gm)&&(decide (e.Key=zK)&&decide (e.Why=0))
 else if e.Kind=2 then Gj e.To&&decide (e.Why=0)
 else if e.Kind=3 then decide (e.To=Gm)&&decide (e.Why=0)
 else if e.Kind=5 then(decide (1≤e.Why)&&decide (e.Why≤20))&&(decide (e.Bytes.l=[])&&(decide (e.To=Gm)&&decide (e.Key=zK)))
 else if e.Kind=6 then Gj e.To&&(decide (e.Key=zK)&&decide (e.Why=0))
 else false
theorem b2(a b:Bool):((Cy a (some true)).bind fun x27=>(Cy x27 ((some b).bind fun x=>some x)).bind fun x=>some x)=some (a&&b):=by cases a<;>cases b<;>rfl
theorem nE(w:Int):Ly w=some (decide (1≤w)&&decide (w≤20)):=by
 unfold Ly
 cases decide (1≤w)<;>cases decide (w≤20)<;>rfl
theorem eK{P:Int→Prop}(h1:P 1)(h2:P 2)(h3:P 3)(h4:P 4)(h5:P 5)(h6:P 6)(h: ∀k,k≠1→k≠2→k≠3→k≠4→k≠5→k≠6→P k)(k:Int):P k:=by
 by_cases e1:k=1
 ·subst e1;exact h1
 by_cases e2:k=2
 ·subst e2;exact h2
 by_cases e3:k=3
 ·subst e3;exact h3
 by_cases e4:k=4
 ·subst e4;exact h4
 by_cases e5:k=5
 ·subst e5;exact h5
 by_cases e6:k=6
 ·subst e6;exact h6
 exact h k e1 e2 e3 e4 e5 e6
theorem rN:Al.z=Gm:=rfl
theorem rM:(T.arr 32 T.u8).z=zK:=rfl
theorem zE1:(⟨A7.z,0⟩:AF)=Gm:=rfl
theorem zK1:(⟨[0,0,0,0,0,0,0,0,0,0,0,0,0,0,0,0,0,0,0,0,0,0,0,0,0,0,0,0,0,0,0,0],rfl⟩:Ar UInt8 32)=zK:=rfl
theorem nD:(GS.nil:GS UInt8).l=[]:=rfl
theorem FA(e:Ao):E4 e=some (OF e):=by
 obtain⟨k,b,t,y,w⟩:=e
 have ct:(Gm=t)=(t=Gm):=propext eq_comm
 have cy:(zK=y)=(y=zK):=propext eq_comm
 have cw:(0=w)=(w=0):=propext eq_comm
 revert k
 refine eK ?_ ?_ ?_ ?_ ?_ ?_ ?_
 ·simp[E4,OF,VH,GZ,Cy,rN,rM,zE1,zK1]
 ·simp[E4,OF,VH,GZ,Cy,rN,rM,zE1,zK1,QY]
  by_cases hw:w=0<;>cases Gj t<;>simp[hw]
 ·simp[E4,OF,VH,GZ,Cy,rN,rM,zE1,zK1]
 ·simp[E4,OF,VH,GZ,Cy,rN,rM,zE1,zK1]
 ·simp only[E4,OF,VH,GZ,rN,rM,zE1,zK1,nD,nE]
  by_cases h1:1≤w<;>by_cases h2:w≤20<;>simp[h1,h2,Cy]<;>rfl
 ·simp[E4,OF,VH,GZ,Cy,rN,rM,zE1,zK1,QY]
  by_cases hw:w=0<;>by_cases hy:y=zK<;>cases Gj t<;>simp[hw,hy]
 ·intro k h1 h2 h3 h4 h5 h6
  simp[E4,OF,VH,Cy,h1,h2,h3,h4,h5,h6]
theorem pE(e:Ao)(hb:e.Bytes.l.length<4611686018427387904):F2 e=some (OF e):=by
 obtain⟨k,b,t,y,w⟩:=e
 have hb:b.l.length<4611686018427387904:=hb
 have hn:(GS.nil:GS UInt8).l.length<4611686018427387904:=by decide
 have ct:(Gm=t)=(t=Gm):=propext eq_comm
 have cy:(zK=y)=(y=zK):=propext eq_comm
 have cw:(0=w)=(w=0):=propext eq_comm
 have cb:(([]:List UInt8)=b.l)=(b.l=[]):=propext eq_comm
 revert k
 refine eK ?_ ?_ ?_ ?_ ?_ ?_ ?_
 ·simp[F2,OF,TL,hb,GZ,Cy,PF,rN,rM]
  simp only[ct,cy,cw]
  by_cases hw:w=0<;>by_cases hy:y=zK<;>by_cases ht:t=Gm<;>simp[hw,hy,ht]
 ·simp[F2,OF,TL,hb,GZ,Cy,PF,rN,rM,SO]
  simp only[ct,cy,cw]
  by_cases hw:w=0<;>simp[hw]
 ·simp[F2,OF,TL,hb,GZ,Cy,PF,rN,rM]
  simp only[ct,cy,cw]
  by_cases hw:w=0<;>by_cases ht:t=Gm<;>simp[hw,ht]
 ·simp[F2,OF,TL,hb,GZ,Cy,PF,rN,rM]
  simp only[ct,cy,cw]
  by_cases hw:w=0<;>by_cases hy:y=zK<;>by_cases ht:t=Gm<;>simp[hw,hy,ht]
 ·by_cases h1:w<1
  ·have h1': ¬1≤w:=by omega
   simp[F2,OF,Cy,PF,h1,h1']
  ·have h1':1≤w:=by omega
   by_cases h2:20<w
   ·have h2': ¬w≤20:=by omega
    simp[F2,OF,Cy,PF,h1,h1',h2,h2']
   ·have h2':w≤20:=by omega
    simp[F2,OF,TL,hn,GZ,Cy,PF,rN,rM,h1,h2]
    have hb0':MZ ⟨5, .nil,Gm,zK,w⟩ ⟨5,b,t,y,w⟩=some (decide (b.l=[])&&(decide (t=Gm)&&decide (y=zK))):=by
     rw[TL _ _ hn]
     unfold GZ
     simp[ct,cy,cb,nD]
    rw[hb0',decide_eq_true h1',decide_eq_true h2']
    by_cases hb0:b.l=[]<;>by_cases hy:y=zK<;>by_cases ht:t=Gm<;>simp[hb0,hy,ht]
 ·simp[F2,OF,TL,hb,GZ,Cy,PF,rN,rM,SO]
  simp only[ct,cy,cw]
  by_cases hw:w=0<;>by_cases hy:y=zK<;>simp[hw,hy]
 ·intro k h1 h2 h3 h4 h5 h6
  simp[F2,OF,h1,h2,h3,h4,h5,h6]
def Eb(b:List UInt8):AR:=if b=[]then [45]else Gr b
def w1:AR:=[114,101,112,108,121]
def w2:AR:=[115,101,110,100]
def w3:AR:=[100,101,108,105,118,101,114]
def w4:AR:=[114,101,102,117,115,101]
def w5:AR:=[100,114,111,112]
def w6:AR:=[112,97,115,115]
def evF(e:Ao):List AR:=
 if e.Kind=1 then [w1,Eb e.Bytes.l]else if e.Kind=2 then [w2,Hc e.To,Gr e.Key.l,Eb e.Bytes.l]else if e.Kind=3 then [w3,Gr e.Key.l,Eb e.Bytes.l]else if e.Kind=4 then [w4,Eb e.Bytes.l]
 else if e.Kind=5 then [w5,DP e.Why.toNat]else [w6,Hc e.To,Eb e.Bytes.l]
def evT(e:Ao):AR:=BO [32] (evF e)
theorem JJ{b:List UInt8}(h:b.length≤9000):(Eb b).length≤18000:=by
 unfold Eb
 split
 ·simp
 ·rw[Ng];omega
theorem P2(e:Ao)(h:e.Bytes.l.length≤9000):FB e=some (Eb e.Bytes.l):=by
 unfold FB Eb
 by_cases hb:e.Bytes.l=[]
 ·rw[if_pos (by rw[decide_eq_true_eq,hb];rfl),if_pos hb]
 ·rw[if_neg (by rw[decide_eq_true_eq];intro h0;exact hb (List.length_eq_zero_iff.1 (by omega))),if_neg hb,RS _ (by omega)];rfl
theorem ZL(b:GS UInt8)(h:b.l.length≤9000):K5 b=some (Eb b.l):=by
 unfold K5 Eb
 by_cases hb:b.l=[]
 ·rw[if_pos (by rw[decide_eq_true_eq,hb];rfl),if_pos hb]
 ·rw[if_neg (by rw[decide_eq_true_eq];intro h0;exact hb (List.length_eq_zero_iff.1 (by omega))),if_neg hb,VT _ (by omega)];rfl
theorem rR(e:Ao):LC e=some (Hc e.To):=by unfold LC;rw[qG];rfl
theorem nG(e:Ao):Kv e=some (Gr e.Key.l):=by unfold Kv;rw[uZ];rfl
theorem xP(e:Ao)(h:1≤e.Why∧e.Why≤20):Mb e=some (DP e.Why.toNat):=by unfold Mb;rw[NO,RG (by omega) (by omega)];rfl
theorem W1{a b:AR}(ha:a.length≤100000)(hb:b.length≤100000):(Sx 16 (GS.mk [a]) [b]).bind (fun x=>(CA x [32]).bind fun y=>some (y,(0:Int)))=some (BO [32] [a,b],0):=by
 rw[PY (by simp[B4]),Option.bind_some,Ph _ _ (by simp[GS.l]) (by simp) (by simp only[GS.l,Es,Lc];simp;omega)];rfl
theorem W2{a b c:AR}(ha:a.length≤100000)(hb:b.length≤100000)(hc:c.length≤100000):(Sx 16 (GS.mk [a]) [b]).bind (fun x=>(Sx 16 x [c]).bind fun x=>(CA x [32]).bind fun y=>some (y,(0:Int)))=some (BO [32] [a,b,c],0):=by
 rw[PY (by simp[B4]),Option.bind_some,List.singleton_append,PY (by simp[B4]),Option.bind_some,Ph _ _ (by simp[GS.l]) (by simp) (by simp only[GS.l,Es,Lc];simp;omega)];rfl
theorem qC{a b c d:AR}(ha:a.length≤100000)(hb:b.length≤100000)(hc:c.length≤100000)(hd:d.length≤100000):(Sx 16 (GS.mk [a]) [b]).bind (fun x=>(Sx 16 x [c]).bind fun x=>(Sx 16 x [d]).bind fun x=>(CA x [32]).bind fun y=>some (y,(0:Int)))=some (BO [32] [a,b,c,d],0):=by
 rw[PY (by simp[B4]),Option.bind_some,List.singleton_append,PY (by simp[B4]),Option.bind_some,PY (by simp[B4]),Option.bind_some,Ph _ _ (by simp[GS.l]) (by simp) (by simp only[GS.l,Es,Lc];simp;omega)];rfl
theorem RN(K:Ar UInt8 32):(Gr K.l).length=64:=by rw[Ng,K.len]
theorem Xx(e:Ao)(h:OF e=false):Ep e=some ([],1):=by
 unfold Ep
 rw[FA,Option.bind_some,h,if_pos (by rfl)]
theorem cQ(k:Int)(b:GS UInt8)(t:AF)(y:Ar UInt8 32)(w:Int)(hb:b.l.length≤9000)(h:OF ⟨k,b,t,y,w⟩=true):Ep ⟨k,b,t,y,w⟩=some (evT ⟨k,b,t,y,w⟩,0):=by
 have l1:=JJ hb
 have l2:=Nf t
 have l3:=RN y
 revert h
 revert k
 refine eK ?_ ?_ ?_ ?_ ?_ ?_ ?_
 ·intro h
  have b1:=P2 ⟨1,b,t,y,w⟩ hb
  unfold Ep
  rw[FA,h]
  refine(congrArg (fun x:Option AR=>x.bind _) b1).trans ?_
  exact W1 (a:=w1) (by decide) (by dsimp only;omega)
 ·intro h
  have b1:=P2 ⟨2,b,t,y,w⟩ hb
  have b2:=rR ⟨2,b,t,y,w⟩
  have b3:=nG ⟨2,b,t,y,w⟩
  unfold Ep
  rw[FA,h]
  refine(congrArg (fun x:Option AR=>x.bind _) b2).trans ?_
  refine Eq.trans ?_ (qC (a:=w2) (b:=Hc t) (c:=Gr y.l) (d:=Eb b.l) (by decide) (by omega) (by omega) (by omega))
  rw[Option.bind_some,b3,b1]
  rfl
 ·intro h
  have b1:=P2 ⟨3,b,t,y,w⟩ hb
  have b3:=nG ⟨3,b,t,y,w⟩
  unfold Ep
  rw[FA,h]
  refine(congrArg (fun x:Option AR=>x.bind _) b3).trans ?_
  refine Eq.trans ?_ (W2 (a:=w3) (b:=Gr y.l) (c:=Eb b.l) (by decide) (by omega) (by omega))
  rw[Option.bind_some,b1]
  rfl
 ·intro h
  have b1:=P2 ⟨4,b,t,y,w⟩ hb
  unfold Ep
  rw[FA,h]
  refine(congrArg (fun x:Option AR=>x.bind _) b1).trans ?_
  exact W1 (a:=w4) (by decide) (by dsimp only;omega)
 ·intro h
  have hw:1≤w∧w≤20:=by
   unfold OF at h
   simp at h
   exact h.1
  have b1:=xP ⟨5,b,t,y,w⟩ hw
  have l4:=Jq w.toNat
  unfold Ep
  rw[FA,h]
  refine(congrArg (fun x:Option AR=>x.bind _) b1).trans ?_
  exact W1 (a:=w5) (by decide) (by dsimp only;omega)
 ·intro h
  have b1:=P2 ⟨6,b,t,y,w⟩ hb
  have b2:=rR ⟨6,b,t,y,w⟩
  unfold Ep
  rw[FA,h]
  refine(congrArg (fun x:Option AR=>x.bind _) b2).trans ?_
  refine Eq.trans ?_ (W2 (a:=w6) (b:=Hc t) (c:=Eb b.l) (by decide) (by omega) (by omega))
  rw[Option.bind_some,b1]
  rfl
 ·intro k h1 h2 h3 h4 h5 h6 h
  unfold OF at h
  simp[h1,h2,h3,h4,h5,h6]at h
theorem Vu(e:Ao)(hb:e.Bytes.l.length≤9000)(h:OF e=true):Ep e=some (evT e,0):=cQ e.Kind e.Bytes e.To e.Key e.Why hb h
theorem LS{γ:Type}{a b:AR}{K:AR→Option γ}(ha:a.length≤1000000)(hb:b.length≤1000000):((if a.length+b.length≤2*B4 then some (a++b)else none).bind K)=K (a++b):=by
 rw[if_pos (by unfold B4;omega),Option.bind_some]
theorem bQ{γ:Type}{a:AR}{K:AR→Option γ}(ha:a.length≤1000000):((if a.length+([32]:AR).length≤2*B4 then some (a++[32])else none).bind K)=K (a++[32]):=LS ha (by decide)
theorem pD(k:Int)(b:GS UInt8)(t:AF)(y:Ar UInt8 32)(w:Int)(hb:b.l.length≤9000)(h:OF ⟨k,b,t,y,w⟩=true):MY ⟨k,b,t,y,w⟩=some (evT ⟨k,b,t,y,w⟩):=by
 have l1:=JJ hb
 have l2:=Nf t
 have l3:=RN y
 have b1:=ZL b hb
 have b2:=sQ t
 have b3:JP (.mk y.l)=some (Gr y.l):=VT (.mk y.l) (by show y.l.length<_;rw[y.len];decide)
 unfold MY
 rw[pF,Option.bind_some,b3,Option.bind_some]
 revert h
 revert k
 refine eK ?_ ?_ ?_ ?_ ?_ ?_ ?_
 ·intro h
  refine(congrArg (fun x:Option AR=>x.bind _) b1).trans ?_
  refine(LS (a:=[114,101,112,108,121,32]) (by decide) (by omega)).trans ?_
  show some _=some (BO [32] [w1,Eb b.l])
  simp[BO,w1]
 ·intro h
  refine(congrArg (fun x:Option AR=>x.bind _) b2).trans ?_
  refine(LS (a:=[115,101,110,100,32]) (by decide) (by omega)).trans ?_
  refine(bQ (by simp;omega)).trans ?_
  refine(LS (by simp;omega) (by omega)).trans ?_
  refine(bQ (by simp;omega)).trans ?_
  refine(congrArg (fun x:Option AR=>x.bind _) b1).trans ?_
  refine(LS (by simp;omega) (by omega)).trans ?_
  show some _=some (BO [32] [w2,Hc t,Gr y.l,Eb b.l])
  simp[BO,w2]
 ·intro h
  refine(LS (a:=[100,101,108,105,118,101,114,32]) (by decide) (by omega)).trans ?_
  refine(bQ (by simp;omega)).trans ?_
  refine(congrArg (fun x:Option AR=>x.bind _) b1).trans ?_
  refine(LS (by simp;omega) (by omega)).trans ?_
  show some _=some (BO [32] [w3,Gr y.l,Eb b.l])
  simp[BO,w3]
 ·intro h
  refine(congrArg (fun x:Option AR=>x.bind _) b1).trans ?_
  refine(LS (a:=[114,101,102,117,115,101,32]) (by decide) (by omega)).trans ?_
  show some _=some (BO [32] [w4,Eb b.l])
  simp[BO,w4]
 ·intro h
  have hw:1≤w∧w≤20:=by
   unfold OF at h
   simp at h
   exact h.1
  have b4:Jb (DA w)=some (DP w.toNat):=by rw[ZM,RG (by omega) (by omega)]
  have l4:=Jq w.toNat
  refine(congrArg (fun x:Option AR=>x.bind _) b4).trans ?_
  refine(LS (a:=[100,114,111,112,32]) (by decide) (by omega)).trans ?_
  show some _=some (BO [32] [w5,DP w.toNat])
  simp[BO,w5]
 ·intro h
  refine(congrArg (fun x:Option AR=>x.bind _) b2).trans ?_
  refine(LS (a:=[112,97,115,115,32]) (by decide) (by omega)).trans ?_
  refine(bQ (by simp;omega)).trans ?_
  refine(congrArg (fun x:Option AR=>x.bind _) b1).trans ?_
  refine(LS (by simp;omega) (by omega)).trans ?_
  show some _=some (BO [32] [w6,Hc t,Eb b.l])
  simp[BO,w6]
 ·intro k h1 h2 h3 h4 h5 h6 h
  unfold OF at h
  simp[h1,h2,h3,h4,h5,h6]at h
theorem sP(e:Ao)(hb:e.Bytes.l.length≤9000)(h:OF e=true):MY e=some (evT e):=pD e.Kind e.Bytes e.To e.Key e.Why hb h
end Go.Proofs.YtobejhpigbllpaaGreatDoor.Am
namespace Go.Proofs.YtobejhpigbllpaaGreatDoor.Am
theorem L3(k:Nat){a:AR}(h: ∀i,i<k→(decide (i<6))=true){F:Int→Option (Int⊕(Unit⊕Int))}
  (h1: ∀i,i<k→F ((1+i:Nat):Int)=some (.inl ((1+(i+1):Nat):Int))) (h2:F ((1+k:Nat):Int)=some (.inr (.inr ((1+k:Nat):Int)))):
  (iter F 1).bind (Sum.elim (fun _:Unit=>some 0) some)=some ((1+k:Nat):Int):=by
 have:=natI (s:=(1:Int)) k (fun i=>((1+i:Nat):Int)) (r:= .inr ((1+k:Nat):Int)) rfl h1 h2
 rw[this];rfl
theorem kind1:FN w1=some 1:=L3 0 (a:=w1) (fun i h=>absurd h (by omega)) (fun i h=>absurd h (by omega)) rfl
theorem kind2:FN w2=some 2:=L3 1 (a:=w2) (fun i h=>by rw[decide_eq_true_eq];omega) (fun i h=>match i,h with|0,_=>rfl) rfl
theorem kind3:FN w3=some 3:=L3 2 (a:=w3) (fun i h=>by rw[decide_eq_true_eq];omega) (fun i h=>match i,h with|0,_=>rfl|1,_=>rfl) rfl
theorem kind4:FN w4=some 4:=L3 3 (a:=w4) (fun i h=>by rw[decide_eq_true_eq];omega) (fun i h=>match i,h with|0,_=>rfl|1,_=>rfl|2,_=>rfl) rfl
theorem kind5:FN w5=some 5:=L3 4 (a:=w5) (fun i h=>by rw[decide_eq_true_eq];omega) (fun i h=>match i,h with|0,_=>rfl|1,_=>rfl|2,_=>rfl|3,_=>rfl) rfl
theorem kind6:FN w6=some 6:=L3 5 (a:=w6) (fun i h=>by rw[decide_eq_true_eq];omega) (fun i h=>match i,h with|0,_=>rfl|1,_=>rfl|2,_=>rfl|3,_=>rfl|4,_=>rfl) rfl
theorem IG(s:AR)(hl:s.length<1073741824){F:List AR}(h:Bq 32 s=F){w:AR}{k:Int}(h0:F[0]? =some w)(hk:FN w=some k){γ:Type}{K:GS AR→Int→Option γ}:
  ((Hb ([32]:AR) 0).bind fun x2=>(IJ s x2).bind fun x3=>(Hb x3.l 0).bind fun x4=>(FN x4).bind fun x6=>K x3 x6)=K (.mk F) k:=by
 have hi:Hb ([32]:AR) 0=some 32:=rfl
 rw[hi,Option.bind_some,YD s 32 hl,Option.bind_some,h]
 have h0':Hb (GS.mk F).l 0=some w:=by
  show F[(0:Int).toNat]? =some w
  exact h0
 rw[h0',Option.bind_some,hk,Option.bind_some]
theorem LB(b:List UInt8)(hb:b.length≤9000): ∃g,F9 (Eb b)=some (g,0)∧g.l=b:=by
 unfold Eb
 by_cases h:b=[]
 ·rw[if_pos h];exact⟨.nil,rfl,h.symm⟩
 ·rw[if_neg h]
  have hlen:=Ng b
  have hne:Gr b≠[]:=fun e=>h (List.length_eq_zero_iff.1 (by rw[e]at hlen;simp at hlen;omega))
  have h45:Gr b≠[45]:=fun e=>by rw[e]at hlen;simp at hlen;omega
  unfold F9
  rw[if_neg (by rw[decide_eq_true_eq];exact h45),if_neg (by rw[decide_eq_true_eq];exact hne),RT _ (by omega),Option.bind_some]
  unfold Aa5
  rw[Tf]
  exact⟨fN b,rfl,RX b⟩
theorem nO{c:UInt8}(h: ∀j:Fin 16,hd j.1≠c)(l:List UInt8):c∉Gr l:=by
 intro hm
 obtain⟨b,_,hb⟩:=List.mem_flatMap.1 hm
 have hlt:=b.toNat_lt
 rcases List.mem_cons.1 hb with e|e
 ·exact h ⟨b.toNat/16,by omega⟩ e.symm
 ·exact h ⟨b.toNat%16,by omega⟩ (List.mem_singleton.1 e).symm
theorem Rr(b:List UInt8):(32:UInt8)∉Eb b:=by
 unfold Eb
 split
 ·decide
 ·exact nO (fun j=>(KC j).2.2.1) b
theorem fC(e:AF):(32:UInt8)∉Hc e:=by
 have ha:=Xn (c:=32) (by decide) (by decide) (fun j=>(KC j).2.2.1) (by decide) e.A
 unfold Hc
 by_cases h:Gj e=true
 ·rw[if_pos h]
  obtain⟨_,h2,h3⟩:=Mi h
  have hd:(32:UInt8)∉DP e.Port.toNat:=Vj (by omega) (by decide)
  split
  ·simp only[List.mem_append,not_or]
   exact⟨⟨⟨by decide,ha⟩,by decide⟩,hd⟩
  ·simp only[List.mem_append,not_or]
   exact⟨⟨ha,by decide⟩,hd⟩
 ·rw[if_neg h];simp
theorem parse1(b:List UInt8)(hb:b.length≤9000): ∃g,C6 (BO [32] [w1,Eb b])=some (⟨1,g,Gm,zK,0⟩,0)∧g.l=b:=by
 obtain⟨g,e,hg⟩:=LB b hb
 have hl:=JJ hb
 refine⟨g,?_,hg⟩
 have hs:Bq 32 (BO [32] [w1,Eb b])=[w1,Eb b]:=EQ (by simp) (by simp[Rr];decide)
 unfold C6
 refine(IG _ (by rw[Es];simp[Lc,w1];omega) hs rfl kind1).trans ?_
 exact(congrArg (fun x:Option (GS UInt8×Int)=>(x.bind _).bind _) e).trans rfl
theorem parse4(b:List UInt8)(hb:b.length≤9000): ∃g,C6 (BO [32] [w4,Eb b])=some (⟨4,g,Gm,zK,0⟩,0)∧g.l=b:=by
 obtain⟨g,e,hg⟩:=LB b hb
 have hl:=JJ hb
 refine⟨g,?_,hg⟩
 have hs:Bq 32 (BO [32] [w4,Eb b])=[w4,Eb b]:=EQ (by simp) (by simp[Rr];decide)
 unfold C6
 refine(IG _ (by rw[Es];simp[Lc,w4];omega) hs rfl kind4).trans ?_
 exact(congrArg (fun x:Option (GS UInt8×Int)=>(x.bind _).bind _) e).trans rfl
theorem keyN(K:Ar UInt8 32):Hj (Gr K.l)=some (K,0):=by rw[XL _ (by rw[RN];decide),pX]
theorem hostN{e:AF}(h:Gj e=true):Gq (Hc e)=some (e,0):=by
 have:=Nf e
 rw[W9 _ (by omega),fD h]
theorem vF(K:Ar UInt8 32):(32:UInt8)∉Gr K.l:=nO (fun j=>(KC j).2.2.1) _
theorem parse2(b:List UInt8)(hb:b.length≤9000){t:AF}(ht:Gj t=true)(y:Ar UInt8 32): ∃g,C6 (BO [32] [w2,Hc t,Gr y.l,Eb b])=some (⟨2,g,t,y,0⟩,0)∧g.l=b:=by
 obtain⟨g,e,hg⟩:=LB b hb
 have hl:=JJ hb
 have l2:=Nf t
 have l3:=RN y
 refine⟨g,?_,hg⟩
 have hs:Bq 32 (BO [32] [w2,Hc t,Gr y.l,Eb b])=[w2,Hc t,Gr y.l,Eb b]:=EQ (by simp) (by simp[Rr,fC,vF];decide)
 unfold C6
 refine(IG _ (by rw[Es];simp[Lc,w2];omega) hs rfl kind2).trans ?_
 refine(congrArg (fun x:Option (AF×Int)=>(x.bind _).bind _) (hostN ht)).trans ?_
 refine(congrArg (fun x:Option (Ar UInt8 32×Int)=>(x.bind _).bind _) (keyN y)).trans ?_
 exact(congrArg (fun x:Option (GS UInt8×Int)=>(x.bind _).bind _) e).trans rfl
theorem parse3(b:List UInt8)(hb:b.length≤9000)(y:Ar UInt8 32): ∃g,C6 (BO [32] [w3,Gr y.l,Eb b])=some (⟨3,g,Gm,y,0⟩,0)∧g.l=b:=by
 obtain⟨g,e,hg⟩:=LB b hb
 have hl:=JJ hb
 have l3:=RN y
 refine⟨g,?_,hg⟩
 have hs:Bq 32 (BO [32] [w3,Gr y.l,Eb b])=[w3,Gr y.l,Eb b]:=EQ (by simp) (by simp[Rr,vF];decide)
 unfold C6
 refine(IG _ (by rw[Es];simp[Lc,w3];omega) hs rfl kind3).trans ?_
 refine(congrArg (fun x:Option (Ar UInt8 32×Int)=>(x.bind _).bind _) (keyN y)).trans ?_
 exact(congrArg (fun x:Option (GS UInt8×Int)=>(x.bind _).bind _) e).trans rfl
theorem parse6(b:List UInt8)(hb:b.length≤9000){t:AF}(ht:Gj t=true): ∃g,C6 (BO [32] [w6,Hc t,Eb b])=some (⟨6,g,t,zK,0⟩,0)∧g.l=b:=by
 obtain⟨g,e,hg⟩:=LB b hb
 have hl:=JJ hb
 have l2:=Nf t
 refine⟨g,?_,hg⟩
 have hs:Bq 32 (BO [32] [w6,Hc t,Eb b])=[w6,Hc t,Eb b]:=EQ (by simp) (by simp[Rr,fC];decide)
 unfold C6
 refine(IG _ (by rw[Es];simp[Lc,w6];omega) hs rfl kind6).trans ?_
 refine(congrArg (fun x:Option (AF×Int)=>(x.bind _).bind _) (hostN ht)).trans ?_
 exact(congrArg (fun x:Option (GS UInt8×Int)=>(x.bind _).bind _) e).trans rfl
theorem parse5{w:Int}(h:1≤w∧w≤20):C6 (BO [32] [w5,DP w.toNat])=some (⟨5, .nil,Gm,zK,w⟩,0):=by
 have l4:=Jq w.toNat
 have hd:(32:UInt8)∉DP w.toNat:=Vj (by omega) (by decide)
 have hs:Bq 32 (BO [32] [w5,DP w.toNat])=[w5,DP w.toNat]:=EQ (by simp) (by simp[hd];decide)
 unfold C6
 refine(IG _ (by rw[Es];simp[Lc,w5];omega) hs rfl kind5).trans ?_
 have hr:GQ (DP w.toNat) 20=some (UInt64.ofNat w.toNat,0):=by
  rw[NP _ _ (by omega)]
  unfold gW
  rw[show(20:UInt64).toNat=20 from rfl,PO (by omega) (by omega)]
 refine(congrArg (fun x:Option (UInt64×Int)=>(x.bind _).bind _) hr).trans ?_
 have ew:IntKind.i64.wrap ((UInt64.ofNat w.toNat).toNat:Int)=w:=by
  rw[UInt64.toNat_ofNat',show w.toNat%2^64=w.toNat by omega,BF (by omega)];omega
 show(((Cy true ((Ly (IntKind.i64.wrap ((UInt64.ofNat w.toNat).toNat:Int))).bind fun x162=>some (!x162))).bind fun x164=>if x164=true then some ((6:Int),(⟨5, .nil,Gm,zK,IntKind.i64.wrap ((UInt64.ofNat w.toNat).toNat:Int)⟩:Ao))else some (0,⟨5, .nil,Gm,zK,IntKind.i64.wrap ((UInt64.ofNat w.toNat).toNat:Int)⟩)).bind _)=_
 rw[ew,nE,decide_eq_true h.1,decide_eq_true h.2]
 rfl
theorem Zy(k:Int)(b:GS UInt8)(t:AF)(y:Ar UInt8 32)(w:Int)(hb:b.l.length≤9000)(h:OF ⟨k,b,t,y,w⟩=true): ∃x,C6 (evT ⟨k,b,t,y,w⟩)=some (x,0)∧x.Bytes.l=b.l∧GZ x ⟨k,b,t,y,w⟩=true:=by
 unfold evT
 revert h
 revert k
 refine eK ?_ ?_ ?_ ?_ ?_ ?_ ?_
 ·intro h
  simp[OF]at h
  obtain⟨g,e,hg⟩:=parse1 b.l hb
  exact⟨_,e,hg,by simp[GZ,hg,h]⟩
 ·intro h
  simp[OF]at h
  obtain⟨g,e,hg⟩:=parse2 b.l hb h.1 y
  exact⟨_,e,hg,by simp[GZ,hg,h]⟩
 ·intro h
  simp[OF]at h
  obtain⟨g,e,hg⟩:=parse3 b.l hb y
  exact⟨_,e,hg,by simp[GZ,hg,h]⟩
 ·intro h
  simp[OF]at h
  obtain⟨g,e,hg⟩:=parse4 b.l hb
  exact⟨_,e,hg,by simp[GZ,hg,h]⟩
 ·intro h
  simp[OF]at h
  exact⟨_,parse5 h.1,by simp[h,nD],by simp[GZ,h,nD]⟩
 ·intro h
  simp[OF]at h
  obtain⟨g,e,hg⟩:=parse6 b.l hb h.1
  exact⟨_,e,hg,by simp[GZ,hg,h]⟩
 ·intro k h1 h2 h3 h4 h5 h6 h
  unfold OF at h
  simp[h1,h2,h3,h4,h5,h6]at h
theorem cR(e:Ao)(hb:e.Bytes.l.length≤9000)(h:OF e=true): ∃x,C6 (evT e)=some (x,0)∧x.Bytes.l=e.Bytes.l∧GZ x e=true:=Zy e.Kind e.Bytes e.To e.Key e.Why hb h
theorem MC:L2 ()=some true:=by
 have h:=Vu ⟨5, .nil,Gm,zK,7⟩ (by decide) (by decide)
 have ht:evT ⟨5, .nil,Gm,zK,7⟩=[100,114,111,112,32,55]:=by decide
 unfold L2
 refine(congrArg (fun x:Option (AR×Int)=>(x.bind _)) h).trans ?_
 rw[ht];rfl
theorem SS(e:Ao):LI e=some true:=by
 unfold LI Wo
 rw[Option.bind_some]
 by_cases hb:9000<e.Bytes.l.length
 ·rw[if_pos (by rw[decide_eq_true_eq];omega),MC];rfl
 ·have hb:e.Bytes.l.length≤9000:=by omega
  rw[if_neg (by rw[decide_eq_true_eq];omega),pE e (by omega),Option.bind_some]
  cases h:OF e with
  |false=>
   rw[Xx e h,Option.bind_some,FA,Option.bind_some,h,MC];rfl
  |true=>
   obtain⟨x,hx,hxb,hxs⟩:=cR e hb h
   rw[Vu e hb h,Option.bind_some,FA,Option.bind_some,h]
   show((C6 (evT e)).bind fun x19=>(MY e).bind fun x25=>_)=_
   rw[hx,Option.bind_some,sP e hb h,Option.bind_some,TL x e (by rw[hxb];omega),hxs,MC,decide_eq_true rfl]
   rfl
end Go.Proofs.YtobejhpigbllpaaGreatDoor.Am

