/-
  Plain laws: addresses, prefixes, endpoints: which may be, which is ahead.
  Plain laws: what the functions that split a text come to.
  Plain laws: texts without blanks at their ends, letters made small.
  Plain laws: two loops side by side; a text's lines with and without an end.
  Plain laws: runes of a text; one of two bytes in a text.
  Plain laws: lines of pairs; the law PairlineLines.
  Plain laws: the text of lines; the laws LinesSplit and LinesJoin.
  Plain laws: blocks of pairs; the laws PairlineBlocks, PairlineReads, PairlineMany.
  Plain laws: a number's digits; the text of an error.
  Plain laws: a number's text.
  Plain laws: texts put together; bytes as digits of sixteen.
  Plain laws: addresses as texts.
  Plain laws: sixteen bytes as a text.
  Plain laws: endpoints and prefixes as texts; fields as pairs.
  Plain laws: fields as pairs.
  Plain laws: which configurations may be.
  Plain laws: the fields of a configuration; the law GetresTexts.
  The law.
-/
import Derived.Test.YtobejhpigbllpaaGreatDoorX4
namespace Go.Proofs.YtobejhpigbllpaaGreatDoor.Am
theorem QQ{x:Int}(h0: -9223372036854775808≤x)(h1:x<9223372036854775808):IntKind.i64.wrap x=x:=Zw h0 h1
theorem SK{n k:Nat}(h:n<k):DU k(n:Int)=some n:=Co h
theorem pP{β ρ:Type}{k n:Nat}{F:Int→Option(Int⊕(Unit⊕β))}{K:Unit⊕β→Option ρ}(q:Nat→Option β)(hk:k≤n)(hn:n<4611686018427387904)(h1: ∀i:Nat,k≤i→i<n→F(i:Int)=some(match q i with|none=> .inl(IntKind.i64.wrap((i:Int)+1))|some b=> .inr(.inr b)))
  (h2:F(n:Int)=some(.inr(.inl()))):(iter F(k:Int)).bind K=(match(List.range' k(n-k)).findSome? q with|none=>K(.inl())|some b=>K(.inr b)):=by
 refine Cg(fun s=>n-s.toNat)(fun s=> ∃i:Nat,s=i∧k≤i∧i≤n∧ ∀j,k≤j→j<i→q j=none)
  (fun r=>(r= .inl()∧ ∀j,k≤j→j<n→q j=none)∨ ∃b,r= .inr b∧(List.range' k(n-k)).findSome? q=some b)⟨k,rfl,Nat.le_refl _,hk,by omega⟩ ?_ ?_
 ·rintro s⟨i,rfl,hki,hi,hq⟩
  rcases Nat.lt_or_ge i n with hlt|hge
  ·rw[h1 i hki hlt]
   cases e:q i with
   |none=>
    left
    refine⟨_,rfl,⟨i+1,?_,by omega,by omega,fun j hj1 hj=> ?_⟩,?_⟩
    ·rw[show(i:Int)+1=((i+1:Nat):Int)by omega,B1(by omega)]
    ·rcases Nat.lt_or_ge j i with h|h
     ·exact hq j hj1 h
     ·obtain rfl:j=i:=by omega
      exact e
    ·rw[show(i:Int)+1=((i+1:Nat):Int)by omega,B1(by omega)];omega
   |some b=>
    right
    refine⟨_,rfl, .inr⟨b,rfl,?_⟩⟩
    have:List.range' k(n-k)=List.range' k(i-k)++i::List.range'(i+1)(n-(i+1)):=by
     rw[show n-k=(i-k)+(1+(n-(i+1)))by omega,←List.range'_append_1,←List.range'_append_1]
     simp only[List.range'_one,List.singleton_append,List.append_cancel_left_eq]
     rw[show k+(i-k)=i by omega]
    rw[this,List.findSome?_append,List.findSome?_eq_none_iff.2(fun j hj=>by
     rw[List.mem_range'_1]at hj;exact hq j hj.1(by omega))]
    simp[e]
  ·obtain rfl:i=n:=by omega
   right
   exact⟨_,h2, .inl⟨rfl,hq⟩⟩
 ·rintro _(⟨rfl,h⟩|⟨b,rfl,h⟩)
  ·rw[List.findSome?_eq_none_iff.2(fun j hj=>by rw[List.mem_range'_1]at hj;exact h j hj.1(by omega))]
  ·rw[h]
theorem cmpA(x y:AB):HN Fa x y=decide(x=y):=
 if h:x=y then(KF(t:=Ak)h).trans(decide_eq_true h).symm else(Wk(t:=Ak)h).trans(decide_eq_false h).symm
theorem cmpE(x y:AF):HN Cy x y=decide(x=y):=
 if h:x=y then(KF(t:=Ao)h).trans(decide_eq_true h).symm else(Wk(t:=Ao)h).trans(decide_eq_false h).symm
theorem uK(x y:Aq):HN ED x y=decide(x=y):=
 if h:x=y then(KF(t:=Aj)h).trans(decide_eq_true h).symm else(Wk(t:=Aj)h).trans(decide_eq_false h).symm
def DS(a:AB):Bool:=decide(a.V=6∨(a.V=4∧a.B.l.drop 4=List.replicate 12 0))
theorem zR(b0 b1 b2 b3:UInt8)(h:[b0,b1,b2,b3].length=4):NC⟨[b0,b1,b2,b3],h⟩=some⟨4,⟨[b0,b1,b2,b3,0,0,0,0,0,0,0,0,0,0,0,0],rfl⟩⟩:=by
 unfold NC
 rfl
theorem tX(b0 b1 b2 b3 b4 b5 b6 b7 b8 b9 b10 b11 b12 b13 b14 b15:UInt8)(h:(([b0,b1,b2,b3,b4,b5,b6,b7,b8,b9,b10,b11,b12,b13,b14,b15].drop 0).take 4).length=4):
  NC⟨([b0,b1,b2,b3,b4,b5,b6,b7,b8,b9,b10,b11,b12,b13,b14,b15].drop 0).take 4,h⟩=some⟨4,⟨[b0,b1,b2,b3,0,0,0,0,0,0,0,0,0,0,0,0],rfl⟩⟩:=zR b0 b1 b2 b3 rfl
theorem bytes16{p:AB→Prop}(h: ∀(V:Int)(b0 b1 b2 b3 b4 b5 b6 b7 b8 b9 b10 b11 b12 b13 b14 b15:UInt8),p⟨V,⟨[b0,b1,b2,b3,b4,b5,b6,b7,b8,b9,b10,b11,b12,b13,b14,b15],rfl⟩⟩): ∀a,p a:=by
 rintro⟨V,⟨l,hl⟩⟩
 match l,hl with
 |[b0,b1,b2,b3,b4,b5,b6,b7,b8,b9,b10,b11,b12,b13,b14,b15],_=>exact h V b0 b1 b2 b3 b4 b5 b6 b7 b8 b9 b10 b11 b12 b13 b14 b15
theorem LT(a:AB):Hv a=some(DS a):=by
 revert a
 refine bytes16 fun V b0 b1 b2 b3 b4 b5 b6 b7 b8 b9 b10 b11 b12 b13 b14 b15=> ?_
 unfold Hv
 by_cases h6:V=6
 ·simp[h6,Ig,DS]
 ·by_cases hv:V=4
  ·subst hv
   have e4:((4:Int)=6)=False:=by simp
   simp only[Ig,D1,e4,decide_false,Bool.false_eq_true,if_false,decide_true,if_true,tX,Option.bind_some,cmpA,DS]
   congr 1
   simp[AB.mk.injEq,Ar.mk.injEq,List.replicate]
  ·simp[h6,hv,Ig,D1,DS]
theorem ZV(B:Ar UInt8 16){i:Nat}(h:i<16): ∃b,B.l[i]? =some b:=⟨B.l[i]'(by rw[B.len];exact h),List.getElem?_eq_getElem _⟩
theorem Nn(a:AB):IP a=some(DS a):=by
 unfold IP
 by_cases h6:a.V=6
 ·simp[h6,DS]
 ·rw[if_neg(by simpa using h6)]
  rw[show(4:Int)=((4:Nat):Int)from rfl,pP(n:=16)(fun i=>if a.B.l[i]? =some 0 then none else some false)(by decide)(by decide)]
  ·cases e:(List.range' 4(16-4)).findSome?(fun i=>if a.B.l[i]? =some 0 then none else some false)with
   |none=>
    simp only[Sum.elim_inl]
    have hz:a.B.l.drop 4=List.replicate 12 0:=by
     apply List.ext_getElem?
     intro i
     rw[List.getElem?_drop]
     rcases Nat.lt_or_ge i 12 with hi|hi
     ·have:=List.findSome?_eq_none_iff.1 e(4+i)(by rw[List.mem_range'_1];omega)
      rw[List.getElem?_replicate,if_pos hi]
      by_cases h:a.B.l[4+i]? =some 0
      ·exact h
      ·simp[h]at this
     ·rw[List.getElem?_eq_none(by rw[a.B.len];omega),List.getElem?_eq_none(by simp;omega)]
    simp[DS,h6,hz]
   |some b=>
    obtain⟨i,hi,h'⟩:=List.exists_of_findSome?_eq_some e
    rw[List.mem_range'_1]at hi
    have hb:b=false:=by split at h'<;>simp_all
    subst hb
    simp only[Sum.elim_inr]
    have: ¬a.B.l.drop 4=List.replicate 12 0:=fun hz=>by
     have h:=congrArg(fun l=>l[i-4]?)hz
     simp only[List.getElem?_drop,List.getElem?_replicate]at h
     rw[show 4+(i-4)=i by omega,if_pos(by omega)]at h
     rw[h]at h';simp at h'
    have hr:DS a=false:=decide_eq_false(by
     rintro(h|⟨_,h⟩)
     ·exact h6 h
     ·exact this h)
    rw[hr]
  ·intro i h4 hi
   obtain⟨b,hb⟩:=ZV a.B hi
   rw[if_pos(by simp;omega),SK hi,Option.bind_some,hb]
   simp only[Option.bind_some,Option.some.injEq]
   have e0:((b.toNat:Int)=((0:UInt8).toNat:Int))↔b=0:=by
    constructor
    ·intro h;exact UInt8.toNat_inj.1(by exact_mod_cast h)
    ·rintro rfl;rfl
   by_cases h:b=0
   ·simp[h]
   ·simp only[e0,h,decide_false,Bool.not_false,if_true,if_false];rfl
  ·rw[if_neg(by decide)]
def Ej(a:AB):Nat:=if DS a=true then(if a.V=4 then 32 else 128)else 0
theorem Yk(a:AB):LU a=some(Ej a:Int):=by
 unfold LU Ej
 rw[LT]
 cases DS a with
 |false=>simp
 |true=>by_cases h:a.V=4<;>simp[h]
theorem ZB(a:AB):No a=some(Ej a:Int):=by
 unfold No Ej
 rw[Nn]
 cases DS a with
 |false=>simp
 |true=>by_cases h:a.V=4<;>simp[h]
def PE(b:UInt8)(k:Nat):UInt8:=UInt8.ofNat(b.toNat/2^(8-k)*2^(8-k))
def OV(l:List UInt8)(n:Nat):List UInt8:=l.mapIdx fun i b=>PE b(min(n-8*i)8)
theorem Ns(l:List UInt8)(n:Nat):(OV l n).length=l.length:=by simp[OV]
theorem Nt(l:List UInt8)(n i:Nat):(OV l n)[i]? =l[i]?.map fun b=>PE b(min(n-8*i)8):=by simp[OV,List.getElem?_mapIdx]
def shlN(k:Nat):UInt8:=QG(((255:UInt8).toNat:Int)*2^(min k 8))
def andN(b k:Nat):UInt8:=QG(JG .and .u8(b:Int)((shlN k).toNat:Int))
theorem AaJ: ∀(b:Fin 256)(k:Fin 9),andN b.1(8-k.1)=PE(UInt8.ofNat b.1)k.1:=by decide+kernel
def addN(x:UInt8)(n:Nat):UInt8:=QG((x.toNat:Int)+((QG(n:Int)).toNat:Int))
theorem sZ: ∀(b:Fin 256)(r:Fin 8),PE(UInt8.ofNat b.1)(r.1+1)=(if b.1/2^(7-r.1)%2=1 then addN(PE(UInt8.ofNat b.1)r.1)(128/2^r.1)else PE(UInt8.ofNat b.1)r.1):=by decide+kernel
theorem tA(b:UInt8):PE b 0=0:=by
 have:=b.toNat_lt
 unfold PE
 rw[show b.toNat/2^(8-0)=0 by rw[Nat.div_eq_of_lt];simpa using this];simp
theorem PC(b:UInt8):UInt8.ofNat b.toNat=b:=by simp
theorem u64N{m:Nat}(h:m<18446744073709551616):(BS(m:Int)).toNat=m:=by
 unfold BS
 rw[show((m:Int)%18446744073709551616).toNat=m by omega]
 simp[UInt64.toNat_ofNat,h]
theorem uT(a:AB)(n:Nat)(hn:n≤1000)(hr:DS a=true):Q5 a(n:Int)=some⟨a.V,⟨OV a.B.l n,by rw[Ns,a.B.len]⟩⟩:=by
 unfold Q5
 simp only[LT,hr,Option.bind_some,Bool.not_true,Bool.false_eq_true,if_false]
 refine Cg(fun s=>16-s.1.toNat)(fun s=> ∃i:Nat,s.1=i∧i≤16∧s.2.V=a.V∧ ∀j:Nat,s.2.B.l[j]? =if j<i then(OV a.B.l n)[j]? else a.B.l[j]?)
  (fun r=>r= .inl⟨a.V,⟨OV a.B.l n,by rw[Ns,a.B.len]⟩⟩)⟨0,rfl,by omega,rfl,fun j=>by simp⟩ ?_ ?_
 rotate_left
 ·rintro _ rfl;rfl
 ·rintro⟨s,⟨V,B⟩⟩⟨i,rfl,h1,h2,h3⟩
  dsimp only at h2 h3 ⊢
  subst h2
  by_cases hi:i<16
  ·left
   obtain⟨b,hb⟩:=ZV a.B hi
   have hBi:B.l[i]? =some b:=by rw[h3,if_neg(by omega)];exact hb
   rw[if_pos(by simp;omega)]
   have hw:IntKind.i64.wrap((n:Int)-IntKind.i64.wrap(8*(i:Int)))=(n:Int)-8*(i:Int):=by rw[QQ(x:=8*(i:Int))(by omega)(by omega),QQ(by omega)(by omega)]
   have hx:(if 8<(if(0:Int)>(n:Int)-8*(i:Int)then 0 else(n:Int)-8*(i:Int))then 8 else(if(0:Int)>(n:Int)-8*(i:Int)then 0 else(n:Int)-8*(i:Int)))=((min(n-8*i)8:Nat):Int):=by
    split<;>split<;>omega
   have hk:min(n-8*i)8<9:=by omega
   have h8:IntKind.i64.wrap(8-((min(n-8*i)8:Nat):Int))=((8-min(n-8*i)8:Nat):Int):=by rw[QQ(by omega)(by omega)];omega
   have h9:(BS(((8-min(n-8*i)8:Nat):Int))).toNat=8-min(n-8*i)8:=u64N(by omega)
   have hm:=AaJ⟨b.toNat,b.toNat_lt⟩⟨min(n-8*i)8,hk⟩
   simp only[andN,shlN,PC]at hm
   simp only[hw,hx]
   rw[if_neg(show¬decide((n:Int)<0)=true by simp)]
   simp only[Option.bind_some,Sum.elim_inl,SK hi,hBi,h8,h9]
   rw[if_neg(by omega)]
   simp only[Option.bind_some,Int.toNat_natCast,if_pos hi]
   refine⟨_,rfl,⟨i+1,by dsimp only;rw[QQ(by omega)(by omega)];omega,by omega,rfl,fun j=> ?_⟩,by dsimp only;rw[QQ(by omega)(by omega)];omega⟩
   dsimp only[Ar.set]
   rw[List.getElem?_set]
   by_cases hj:i=j
   ·subst hj
    rw[if_pos rfl,if_pos(by rw[B.len];exact hi),if_pos(by omega),Nt,hb,Option.map_some]
    exact congrArg some hm
   ·rw[if_neg hj,h3]
    by_cases hji:j<i
    ·rw[if_pos hji,if_pos(by omega)]
    ·rw[if_neg hji,if_neg(by omega)]
  ·obtain rfl:i=16:=by omega
   right
   rw[if_neg(by simp)]
   refine⟨_,rfl,?_⟩
   congr 2
   apply Ar.ext
   apply List.ext_getElem?
   intro j
   dsimp only
   rw[h3]
   by_cases hj:j<16
   ·rw[if_pos hj]
   ·rw[if_neg hj,List.getElem?_eq_none(by rw[a.B.len];omega),List.getElem?_eq_none(by rw[Ns,a.B.len];omega)]
theorem td8{i:Nat}(h:i<1000):(if(8:Nat)=0 then none else some(IntKind.i64.wrap(Int.tdiv(i:Int)8)))=some((i/8:Nat):Int):=by
 rw[if_neg(by decide),show(8:Int)=((8:Nat):Int)from rfl,←Int.ofNat_tdiv,B1(by omega)]
theorem tm8{i:Nat}:(if(8:Nat)=0 then none else some(Int.tmod(i:Int)8))=some((i%8:Nat):Int):=by
 rw[if_neg(by decide),show(8:Int)=((8:Nat):Int)from rfl,←Int.ofNat_tmod]
theorem td2{i:Nat}(h:i<1000):(if(2:Nat)=0 then none else some(IntKind.i64.wrap(Int.tdiv(i:Int)2)))=some((i/2:Nat):Int):=by
 rw[if_neg(by decide),show(2:Int)=((2:Nat):Int)from rfl,←Int.ofNat_tdiv,B1(by omega)]
theorem tm2{i:Nat}:(if(2:Nat)=0 then none else some(Int.tmod(i:Int)2))=some((i%2:Nat):Int):=by
 rw[if_neg(by decide),show(2:Int)=((2:Nat):Int)from rfl,←Int.ofNat_tmod]
theorem YQ(a:AB)(i:Nat)(hi:i<128)(b:UInt8)(hb:a.B.l[i/8]? =some b):Qj a(i:Int)=some((b.toNat/2^(7-i%8)%2:Nat):Int):=by
 have hbl:=b.toNat_lt
 unfold Qj
 rw[td8(by omega)]
 simp only[Option.bind_some,SK(show i/8<16 by omega),hb]
 refine Cg(fun s=>s.2.toNat)(fun s=> ∃m:Nat,m≤7-i%8∧s.1=((b.toNat/2^m:Nat):Int)∧s.2=((7-m:Nat):Int))(fun r=>r= .inl((b.toNat/2^(7-i%8):Nat):Int))⟨0,by omega,by rw[B1(by omega)];simp,rfl⟩ ?_ ?_
 ·rintro⟨s,k⟩⟨m,h1,h2,h3⟩
  dsimp only at h2 h3 ⊢
  subst h2 h3
  have hle:b.toNat/2^m≤b.toNat:=Nat.div_le_self _ _
  rw[tm8]
  simp only[Option.bind_some]
  by_cases hm:m<7-i%8
  ·left
   rw[if_pos(by rw[decide_eq_true_eq];omega),td2(by omega)]
   simp only[Option.bind_some]
   refine⟨_,rfl,⟨m+1,by omega,?_,?_⟩,?_⟩
   ·dsimp only;rw[Nat.div_div_eq_div_mul,←Nat.pow_succ]
   ·dsimp only;rw[QQ(by omega)(by omega)];omega
   ·dsimp only;rw[QQ(by omega)(by omega)];omega
  ·right
   obtain rfl:m=7-i%8:=by omega
   rw[if_neg(by rw[decide_eq_true_eq];omega)]
   exact⟨_,rfl,rfl⟩
 ·rintro _ rfl
  simp only[Sum.elim_inl,tm2,Option.bind_some]
theorem pow_val{β γ:Type}{r:Nat}(hr:r<8){K:(Int⊕β)→Option γ}{F:Int×Int→Option((Int×Int)⊕(Int⊕β))}(hF: ∀m k:Nat,m<1000→k≤8→F((m:Int),(k:Int))=if k<r then some(.inl(((m/2:Nat):Int),((k+1:Nat):Int)))else some(.inr(.inl(m:Int)))):
  (iter F(128,0)).bind K=K(.inl((128/2^r:Nat):Int)):=by
 refine Cg(fun s=>8-s.2.toNat)(fun s=> ∃k:Nat,k≤r∧s.1=((128/2^k:Nat):Int)∧s.2=(k:Int))(fun q=>q= .inl((128/2^r:Nat):Int))⟨0,by omega,rfl,rfl⟩ ?_ ?_
 ·rintro⟨s,k⟩⟨m,h1,h2,h3⟩
  dsimp only at h2 h3 ⊢
  subst h2 h3
  have hle:128/2^m≤128:=Nat.div_le_self _ _
  rw[hF _ _(by omega)(by omega)]
  by_cases hm:m<r
  ·left
   rw[if_pos hm]
   refine⟨_,rfl,⟨m+1,by omega,?_,rfl⟩,by dsimp only;omega⟩
   dsimp only;rw[Nat.div_div_eq_div_mul,←Nat.pow_succ]
  ·right
   obtain rfl:m=r:=by omega
   rw[if_neg(by omega)]
   exact⟨_,rfl,rfl⟩
 ·rintro _ rfl;rfl
theorem wH(a:AB)(n:Nat)(hn:n≤Ej a)(hr:DS a=true):Sz a(n:Int)=some⟨a.V,⟨OV a.B.l n,by rw[Ns,a.B.len]⟩⟩:=by
 have hw:Ej a≤128:=by unfold Ej;split<;>(try split)<;>omega
 unfold Sz
 simp only[Nn,ZB,hr,Option.bind_some,Bool.not_true,Bool.false_eq_true,if_false]
 refine Cg(fun s=>128-s.1.toNat)(fun s=> ∃i:Nat,s.1=i∧i≤n∧s.2.V=a.V∧s.2.B.l=OV a.B.l i)
  (fun r=>r= .inl⟨a.V,⟨OV a.B.l n,by rw[Ns,a.B.len]⟩⟩)⟨0,rfl,by omega,rfl,?_⟩ ?_ ?_
 ·apply List.ext_getElem?
  intro j
  rw[Nt]
  show(List.replicate 16(0:UInt8))[j]? =_
  rw[List.getElem?_replicate]
  by_cases hj:j<16
  ·obtain⟨b,hb⟩:=ZV a.B hj
   rw[if_pos hj,hb,Option.map_some,show min(0-8*j)8=0 by omega,tA]
  ·rw[if_neg hj,List.getElem?_eq_none(by rw[a.B.len];omega)];rfl
 ·rintro⟨s,⟨V,B⟩⟩⟨i,rfl,h1,h2,h3⟩
  dsimp only at h2 h3 ⊢
  subst h2
  by_cases hi:i<n
  ·left
   obtain⟨b,hb⟩:=ZV a.B(show i/8<16 by omega)
   have ht:D1(decide((i:Int)<(Ej a:Int)))(some(decide((i:Int)<(n:Int))))=some true:=by
    rw[decide_eq_true(by omega),decide_eq_true(by omega)];rfl
   have hBb:B.l[i/8]? =some(PE b(i%8)):=by
    rw[h3,Nt,hb,Option.map_some,show min(i-8*(i/8))8=i%8 by omega]
   have hstep:=sZ⟨b.toNat,b.toNat_lt⟩⟨i%8,by omega⟩
   simp only[addN,PC]at hstep
   have hnext: ∀(c:UInt8),c=PE b(i%8+1)→B.l.set(i/8)c=OV a.B.l(i+1):=by
    rintro c rfl
    apply List.ext_getElem?
    intro j
    rw[List.getElem?_set,Nt]
    by_cases hj:i/8=j
    ·subst hj
     rw[if_pos rfl,if_pos(by rw[B.len];omega),hb,Option.map_some,show min(i+1-8*(i/8))8=i%8+1 by omega]
    ·rw[if_neg hj,h3,Nt,show min(i+1-8*j)8=min(i-8*j)8 by omega]
   have hwi:IntKind.i64.wrap((i:Int)+1)=((i+1:Nat):Int):=by rw[QQ(by omega)(by omega)];omega
   simp only[ht,Option.bind_some,if_true,YQ a i(by omega)b hb]
   by_cases hd:b.toNat/2^(7-i%8)%2=1
   ·rw[if_pos hd]at hstep
    rw[if_pos(by rw[decide_eq_true_eq];omega)]
    rw[pow_val(r:=i%8)(by omega)(fun m k hm hk=>by
     rw[tm8]
     simp only[Option.bind_some]
     by_cases hkr:k<i%8
     ·rw[if_pos(by rw[decide_eq_true_eq];omega),if_pos hkr,td2(by omega)]
      simp only[Option.bind_some]
      rw[QQ(by omega)(by omega)];rfl
     ·rw[if_neg(by rw[decide_eq_true_eq];omega),if_neg hkr])]
    simp only[Sum.elim_inl,td8(show i<1000 by omega),Option.bind_some,SK(show i/8<16 by omega),hBb,if_pos(show i/8<16 by omega),hwi]
    refine⟨_,rfl,⟨i+1,rfl,by omega,rfl,?_⟩,by dsimp only;omega⟩
    exact hnext _ hstep.symm
   ·rw[if_neg hd]at hstep
    rw[if_neg(by rw[decide_eq_true_eq];omega),hwi]
    refine⟨_,rfl,⟨i+1,rfl,by omega,rfl,?_⟩,by dsimp only;omega⟩
    dsimp only
    rw[←hnext(PE b(i%8))hstep.symm]
    exact(List.ext_getElem? fun j=>by
     rw[List.getElem?_set]
     by_cases hj:i/8=j
     ·subst hj;rw[if_pos rfl,if_pos(by rw[B.len];omega),hBb]
     ·rw[if_neg hj])
  ·obtain rfl:i=n:=by omega
   right
   have ht:D1(decide((i:Int)<(Ej a:Int)))(some(decide((i:Int)<(i:Int))))=some false:=by
    rw[decide_eq_false(show¬(i:Int)<(i:Int)by omega)]
    cases decide((i:Int)<(Ej a:Int))<;>rfl
   simp only[ht,Option.bind_some,Bool.false_eq_true,if_false]
   refine⟨_,rfl,?_⟩
   congr 2
   exact Ar.ext h3
 ·rintro _ rfl;rfl
def Hh(p:Aq):Bool:=DS p.A&&(decide(0≤p.Bits∧p.Bits≤(Ej p.A:Int))&&decide(OV p.A.B.l p.Bits.toNat=p.A.B.l))
theorem Wt(a:AB):Ej a≤128:=by unfold Ej;split<;>(try split)<;>omega
theorem Ox(p:Aq):II p=some(Hh p):=by
 obtain⟨a,n⟩:=p
 have hw:=Wt a
 unfold II eR
 simp only[LT,Yk,Option.bind_some,Hh]
 cases hr:DS a with
 |false=>simp[D1]
 |true=>
  simp only[Bool.not_true,Bool.false_eq_true,if_false,Bool.true_and]
  by_cases h0:n<0
  ·have:Ig(decide(n<0))(some(decide((Ej a:Int)<n)))=some true:=by rw[decide_eq_true h0];rfl
   have hf:decide(0≤n∧n≤(Ej a:Int))=false:=decide_eq_false(by omega)
   simp[this,hf,D1]
  ·by_cases h1:(Ej a:Int)<n
   ·have:Ig(decide(n<0))(some(decide((Ej a:Int)<n)))=some true:=by rw[decide_eq_false h0,decide_eq_true h1];rfl
    have hf:decide(0≤n∧n≤(Ej a:Int))=false:=decide_eq_false(by omega)
    simp[this,hf,D1]
   ·have:Ig(decide(n<0))(some(decide((Ej a:Int)<n)))=some false:=by rw[decide_eq_false h0,decide_eq_false h1];rfl
    have hf:decide(0≤n∧n≤(Ej a:Int))=true:=decide_eq_true(by omega)
    obtain⟨m,rfl⟩: ∃m:Nat,n=m:=⟨n.toNat,by omega⟩
    simp only[this,hf,Option.bind_some,Bool.false_eq_true,if_false,uT a m(by omega)hr,decide_true,D1,if_true,uK,Bool.true_and,Int.toNat_natCast]
    congr 1
    rw[decide_eq_decide]
    constructor
    ·intro e
     have:=congrArg(fun x:Aq=>x.A.B.l)e
     exact this
    ·intro e
     obtain⟨V,B⟩:=a
     congr 2
     exact Ar.ext e
theorem Nl(p:Aq):JP p=some(Hh p):=by
 obtain⟨a,n⟩:=p
 have hw:=Wt a
 unfold JP
 simp only[Nn,ZB,Option.bind_some,Hh]
 cases hr:DS a with
 |false=>simp[Ig]
 |true=>
  simp only[Bool.not_true,Bool.true_and]
  by_cases h0:n<0
  ·have hf:decide(0≤n∧n≤(Ej a:Int))=false:=decide_eq_false(by omega)
   simp[Ig,hf,h0]
  ·by_cases h1:(Ej a:Int)<n
   ·have hf:decide(0≤n∧n≤(Ej a:Int))=false:=decide_eq_false(by omega)
    simp[Ig,hf,h0,h1]
   ·have hf:decide(0≤n∧n≤(Ej a:Int))=true:=decide_eq_true(by omega)
    obtain⟨m,rfl⟩: ∃m:Nat,n=m:=⟨n.toNat,by omega⟩
    simp only[Ig,Bool.false_eq_true,if_false,Option.bind_some,decide_eq_false h0,decide_eq_false h1,hf,wH a m(by omega)hr,cmpA,Bool.true_and,Int.toNat_natCast]
    congr 1
    rw[decide_eq_decide]
    constructor
    ·intro e
     exact(congrArg(fun x:AB=>x.B.l)e).symm
    ·intro e
     obtain⟨V,B⟩:=a
     congr 1
     exact(Ar.ext e).symm
def Rd(a b:List UInt8)(i:Nat):Option Bool:=if a[i]? =b[i]? then none else some(decide(((a[i]?).getD 0).toNat<((b[i]?).getD 0).toNat))
def qE(a b:List UInt8):Bool:=((List.range' 0 16).findSome?(Rd a b)).getD false
def iJ(a b:AB):Bool:=if a.V=b.V then qE a.B.l b.B.l else decide(a.V<b.V)
theorem aA{p:Nat→Bool}{q:Nat→Option Bool}: ∀{l:List Nat},(∀i∈l,(q i).isSome=p i)→l.findSome? q=(l.find? p).bind q
 |[],_=>rfl
 |x::l,h=>by
  have hx:=h x(by simp)
  rw[List.findSome?_cons,List.find?_cons]
  cases hq:q x with
  |none=>rw[hq]at hx;simp only[Option.isSome_none]at hx;rw[←hx];exact aA fun i hi=>h i(by simp[hi])
  |some b=>rw[hq]at hx;simp only[Option.isSome_some]at hx;rw[←hx];simp[hq]
theorem Aa5(a b:List UInt8)(ha:a.length=16)(hb:b.length=16):decide(XR a b<0)=qE a b:=by
 unfold XR Extern.BytealgCompare.cmp qE
 have hga: ∀i,i<16→(⟨a.toArray⟩:ByteArray)[i]! =(a[i]?).getD 0:=fun i hi=>by
  rw[getElem!_pos(⟨a.toArray⟩:ByteArray)i(by show i<a.toArray.size;simp[ha,hi]),List.getElem?_eq_getElem(show i<a.length by omega)]
  rfl
 have hgb: ∀i,i<16→(⟨b.toArray⟩:ByteArray)[i]! =(b[i]?).getD 0:=fun i hi=>by
  rw[getElem!_pos(⟨b.toArray⟩:ByteArray)i(by show i<b.toArray.size;simp[hb,hi]),List.getElem?_eq_getElem(show i<b.length by omega)]
  rfl
 have hsa:(⟨a.toArray⟩:ByteArray).size=16:=by simp[ByteArray.size,ha]
 have hsb:(⟨b.toArray⟩:ByteArray).size=16:=by simp[ByteArray.size,hb]
 rw[hsa,hsb,List.range_eq_range']
 have hfs:(List.range' 0 16).findSome?(Rd a b)=((List.range' 0 16).find? fun i=>(⟨a.toArray⟩:ByteArray)[i]! != (⟨b.toArray⟩:ByteArray)[i]!).bind(Rd a b):=by
  refine aA fun i hi=> ?_
  rw[List.mem_range'_1]at hi
  rw[hga i(by omega),hgb i(by omega)]
  rw[List.getElem?_eq_getElem(show i<a.length by omega),List.getElem?_eq_getElem(show i<b.length by omega)]
  unfold Rd
  rw[List.getElem?_eq_getElem(show i<a.length by omega),List.getElem?_eq_getElem(show i<b.length by omega)]
  by_cases e:a[i]=b[i]<;>simp[e]
 rw[hfs]
 simp only[Nat.min_self]
 cases e:(List.range' 0 16).find? fun i=>(⟨a.toArray⟩:ByteArray)[i]! != (⟨b.toArray⟩:ByteArray)[i]! with
 |none=>simp
 |some i=>
  have hi:=List.mem_of_find?_eq_some e
  rw[List.mem_range'_1]at hi
  have hne:=List.find?_some e
  rw[hga i(by omega),hgb i(by omega)]at hne
  have hq:Rd a b i=some(decide(((a[i]?).getD 0).toNat<((b[i]?).getD 0).toNat)):=by
   unfold Rd
   rw[if_neg]
   intro h
   rw[h]at hne
   simp at hne
  simp only[Option.bind_some,hq,Option.getD_some,hga i(by omega),hgb i(by omega)]
  by_cases h:(a[i]?).getD 0<(b[i]?).getD 0
  ·rw[if_pos h];simp[UInt8.lt_iff_toNat_lt.1 h]
  ·rw[if_neg h]
   have: ¬((a[i]?).getD 0).toNat<((b[i]?).getD 0).toNat:=fun g=>h(UInt8.lt_iff_toNat_lt.2 g)
   simp[this]
theorem uU(a b:AB):Q6 a b=some(iJ a b):=by
 unfold Q6 iJ
 by_cases h:a.V=b.V
 ·have h1:(a.B.l.drop 0).take 16=a.B.l:=List.take_of_length_le(by rw[List.drop_zero,a.B.len];exact Nat.le_refl _)
  have h2:(b.B.l.drop 0).take 16=b.B.l:=List.take_of_length_le(by rw[List.drop_zero,b.B.len];exact Nat.le_refl _)
  have hb:Ks(.mk a.B.l)(.mk b.B.l)=some(XR a.B.l b.B.l):=by simp only[Ks,F5,Option.bind_some,Fc]
  rw[h1,h2,hb]
  simp only[h,decide_true,Bool.not_true,Bool.false_eq_true,if_false,if_true,Nat.zero_add,Nat.le_refl,and_self,Option.bind_some]
  exact congrArg some(Aa5 _ _ a.B.len b.B.len)
 ·simp[h]
theorem wI(a b:AB):S1 a b=some(iJ a b):=by
 unfold S1 iJ
 by_cases h:a.V=b.V
 ·simp only[h,decide_true,Bool.not_true,Bool.false_eq_true,if_false,if_true]
  rw[show(0:Int)=((0:Nat):Int)from rfl,pP(n:=16)(Rd a.B.l b.B.l)(by decide)(by decide)]
  ·unfold qE
   cases(List.range' 0(16-0)).findSome?(Rd a.B.l b.B.l)<;>rfl
  ·intro i _ hi
   obtain⟨x,hx⟩:=ZV a.B hi
   obtain⟨y,hy⟩:=ZV b.B hi
   rw[if_pos(by simp;omega)]
   have hq:Rd a.B.l b.B.l i=if x=y then none else some(decide(x.toNat<y.toNat)):=by
    unfold Rd;rw[hx,hy];simp
   simp only[SK hi,Option.bind_some,hx,hy,hq]
   have e0:((x.toNat:Int)=(y.toNat:Int))↔x=y:=⟨fun h=>UInt8.toNat_inj.1(by exact_mod_cast h),fun h=>by rw[h]⟩
   by_cases e:x=y
   ·simp[e]
   ·have e1:decide((x.toNat:Int)<(y.toNat:Int))=decide(x.toNat<y.toNat):=by rw[decide_eq_decide];omega
    simp only[e0,e,decide_false,Bool.not_false,if_true,if_false,e1];rfl
  ·rw[if_neg(by simp)]
 ·simp[h]
def UL(p q:Aq):Bool:=if p.A=q.A then decide(p.Bits<q.Bits)else iJ p.A q.A
theorem uM(p q:Aq):N7 p q=some(UL p q):=by
 unfold N7 UL
 by_cases h:p.A=q.A<;>simp[cmpA,h,uU]
theorem gW(p q:Aq):Nm p q=some(UL p q):=by
 unfold Nm UL
 by_cases h:p.A=q.A<;>simp[cmpA,h,wI]
def Gu(e:AF):Bool:=DS e.A&&(decide(1≤e.Port)&&decide(e.Port≤65535))
theorem RF(e:AF):Ep e=some(Gu e):=by
 unfold Ep Gu
 rw[LT]
 cases DS e.A<;>by_cases h1:1≤e.Port<;>simp[D1,h1]
theorem ZA(e:AF):L2 e=some(Gu e):=by
 unfold L2 Gu
 rw[Nn]
 cases DS e.A<;>by_cases h1:1≤e.Port<;>simp[D1,h1]
theorem ZS(e:AF):F6 e=some(decide(e=⟨Ak.z,0⟩)):=by
 unfold F6;rw[cmpE]
end Go.Proofs.YtobejhpigbllpaaGreatDoor.Am
namespace Go.Proofs.YtobejhpigbllpaaGreatDoor.Am
theorem Zc(l:AN)(c:UInt8):Ft l c=some(N5 l c):=rfl
theorem QY(l:AN)(c:UInt8)(hl:l.length<1073741824):Nr l c=some(.mk(F2 c l)):=by
 unfold Nr
 refine Cg(fun s=>l.length-s.2.1.toNat)
  (fun s=> ∃b j:Nat,s.1=b∧s.2.1=j∧b≤j∧j≤l.length∧(∀x∈(l.take j).drop b,x≠c)∧s.2.2.l.length≤b∧s.2.2.l++F2 c(l.drop b)=F2 c l)
  (fun r=> ∃b:Nat,∃g,r= .inl((b:Int),g)∧b≤l.length∧g.l.length≤b∧g.l++[l.drop b]=F2 c l)⟨0,0,rfl,rfl,by omega,by omega,by simp,by simp,by simp⟩ ?_ ?_
 rotate_left
 ·rintro _⟨b,g,rfl,h1,h2,h3⟩
  simp only[Option.bind_some,Sum.elim_inl,Z4 h1]
  rw[Kt(by unfold Bf;omega),h3,Option.bind_some]
 ·rintro⟨b',j',g⟩⟨b,j,rfl,rfl,h1,h2,h3,h4,h5⟩
  dsimp only at h4 h5 ⊢
  have hsplit:l.drop b=(l.take j).drop b++l.drop j:=by
   rw[←List.drop_append_of_le_length(by simp;omega),List.take_append_drop]
  by_cases hj:j<l.length
  ·rw[if_pos(by simpa using hj),BF,List.getElem?_eq_getElem hj]
   simp only[Option.bind_some]
   have hdj:l.drop j=l[j]::l.drop(j+1):=List.drop_eq_getElem_cons hj
   rw[show(j:Int)+1=((j+1:Nat):Int)by omega,B1(by omega)]
   left
   by_cases hx:l[j]=c
   ·rw[if_pos(by simp[hx]),vI h1(by omega)]
    simp only[Option.bind_some]
    rw[Kt(by unfold Bf;omega)]
    refine⟨_,rfl,⟨j+1,j+1,rfl,rfl,by omega,by omega,by simp,?_,?_⟩,by dsimp only;omega⟩
    ·simp only[Fc,List.length_append,List.length_cons,List.length_nil];omega
    ·rw[hsplit,hdj,hx,W1 h3]at h5
     simpa using h5
   ·rw[if_neg(by simp only[decide_eq_true_eq];exact fun e=>hx(UInt8.toNat_inj.1(by omega)))]
    refine⟨_,rfl,⟨b,j+1,rfl,rfl,by omega,by omega,?_,h4,h5⟩,by dsimp only;omega⟩
    intro x hxm
    rw[List.take_succ_eq_append_getElem hj,List.drop_append_of_le_length(by simp;omega)]at hxm
    rcases List.mem_append.1 hxm with h|h
    ·exact h3 x h
    ·rw[List.mem_singleton.1 h];exact hx
  ·rw[if_neg(by simpa using hj)]
   right
   refine⟨_,rfl,b,g,rfl,by omega,h4,?_⟩
   have:l.drop j=[]:=List.drop_eq_nil_of_le(by omega)
   rw[this,List.append_nil]at hsplit
   rw[hsplit,U9 h3]at h5
   rw[hsplit];exact h5
theorem tP(l:AN)(c:UInt8):Kg l [c]=some(N5 l c):=by
 simp[Kg,ES,Ig,Fv,CO,DC]
 rintro rfl
 simp[N5,List.findIdx?_cons]
end Go.Proofs.YtobejhpigbllpaaGreatDoor.Am
namespace Go.Proofs.YtobejhpigbllpaaGreatDoor.Am
def blk(c:UInt8):Bool:=c==32||c==9||c==13
end Go.Proofs.YtobejhpigbllpaaGreatDoor.Am
namespace Go.Proofs.YtobejhpigbllpaaGreatDoor.Am
end Go.Proofs.YtobejhpigbllpaaGreatDoor.Am
namespace Go.Proofs.YtobejhpigbllpaaGreatDoor.Am
theorem jQ(l:AN)(k:Nat)(h:k<l.length):(⟨l.toArray⟩:ByteArray).get! k=l[k]:=by
 show l.toArray[k]! =l[k]
 rw[getElem!_pos _ _(by simpa using h)];simp
theorem R1(l:AN)(pos:Nat)(h:pos<l.length):(l[pos].toNat<128∧EP l pos=((l[pos].toNat:Int),1))∨
  (128≤l[pos].toNat∧128≤(EP l pos).1∧1≤(EP l pos).2∧ ∀j,j<(EP l pos).2→ ∃hj:pos+j<l.length,128≤(l[pos+j]).toNat):=by
 have hsz:(⟨l.toArray⟩:ByteArray).size=l.length:=by simp[ByteArray.size]
 have h0:=jQ l pos h
 by_cases hb:l[pos].toNat<128
 ·left
  refine⟨hb,?_⟩
  simp only[EP,Utf8.decode,Nat.add_zero,h0,hb,if_true]
 ·right
  have hb':128≤l[pos].toNat:=by omega
  refine⟨hb',?_⟩
  have hd0: ∀j,j<1→ ∃hj:pos+j<l.length,128≤(l[pos+j]).toNat:=fun j hj=>by
   obtain rfl:j=0:=by omega
   exact⟨h,hb'⟩
  have hc: ∀k,(decide(pos+k<(⟨l.toArray⟩:ByteArray).size)&&((⟨l.toArray⟩:ByteArray).get!(pos+k)).toNat/64==2)=true→ ∃hj:pos+k<l.length,128≤(l[pos+k]).toNat:=fun k hk=>by
   simp only[Bool.and_eq_true,decide_eq_true_eq,beq_iff_eq,hsz]at hk
   refine⟨hk.1,?_⟩
   have:=hk.2
   rw[jQ l _ hk.1]at this
   omega
  simp only[EP,Utf8.decode,Nat.add_zero,h0]
  rw[if_neg hb]
  have err:(128:Int)≤((Utf8.runeError:Nat):Int):=by simp[Utf8.runeError]
  split
  ·rename_i hx
   simp only[Bool.and_eq_true]at hx
   have h1:=hc 1(by simpa using hx.2)
   split
   ·rename_i hy
    refine⟨by simp only;omega,by simp,fun j hj=> ?_⟩
    simp only at hj
    rcases(show j=0∨j=1 by omega)with rfl|rfl
    ·exact hd0 0(by omega)
    ·exact h1
   ·exact⟨err,by simp,hd0⟩
  ·split
   ·rename_i hx
    simp only[Bool.and_eq_true]at hx
    have h1:=hc 1(by simpa using hx.1.2)
    have h2:=hc 2(by simpa using hx.2)
    split
    ·rename_i hy
     simp only[Bool.and_eq_true,decide_eq_true_eq]at hy
     refine⟨by simp only;omega,by simp,fun j hj=> ?_⟩
     simp only at hj
     rcases(show j=0∨j=1∨j=2 by omega)with rfl|rfl|rfl
     ·exact hd0 0(by omega)
     ·exact h1
     ·exact h2
    ·exact⟨err,by simp,hd0⟩
   ·split
    ·rename_i hx
     simp only[Bool.and_eq_true]at hx
     have h1:=hc 1(by simpa using hx.1.1.2)
     have h2:=hc 2(by simpa using hx.1.2)
     have h3:=hc 3(by simpa using hx.2)
     split
     ·rename_i hy
      simp only[Bool.and_eq_true,decide_eq_true_eq]at hy
      refine⟨by simp only;omega,by simp,fun j hj=> ?_⟩
      simp only at hj
      rcases(show j=0∨j=1∨j=2∨j=3 by omega)with rfl|rfl|rfl|rfl
      ·exact hd0 0(by omega)
      ·exact h1
      ·exact h2
      ·exact h3
     ·exact⟨err,by simp,hd0⟩
    ·exact⟨err,by simp,hd0⟩
theorem enc_len(r:Int)(h:128≤r): ∃b c,(Utf8.encode r).data.toList=b++[c]∧1≤b.length∧b.length≤3∧128≤c.toNat:=by
 have hc:128≤(if Utf8.valid r then r.toNat else Utf8.runeError):=by
  split
  ·omega
  ·simp[Utf8.runeError]
 have hb: ∀n:Nat,128≤n→n<256→128≤(UInt8.ofNat n).toNat:=fun n h1 h2=>by rw[UInt8.toNat_ofNat'];omega
 unfold Utf8.encode
 dsimp only
 generalize(if Utf8.valid r then r.toNat else Utf8.runeError)=k at hc
 rw[if_neg(by omega)]
 split
 ·exact⟨[_],_,rfl,by simp,by simp,hb _(by omega)(by omega)⟩
 ·split
  ·exact⟨[_,_],_,rfl,by simp,by simp,hb _(by omega)(by omega)⟩
  ·exact⟨[_,_,_],_,rfl,by simp,by simp,hb _(by omega)(by omega)⟩
theorem Yx(r:Int): ∃b,E5 r=some b:=by
 unfold E5 D1
 by_cases h1:(0:Int)≤r<;>by_cases h2:r<55296<;>by_cases h3:(57343:Int)<r<;>by_cases h4:r≤1114111<;>simp[h1,h2,h3,h4]
theorem dP(a b:UInt8)(ha:a.toNat<128)(hb:b.toNat<128)(r:Int)(h:128≤r):Dc [a,b]r=some(-1):=by
 unfold Dc
 have n1: ¬r<128:=by omega
 have n0:(0:Int)≤r:=by omega
 simp only[D1,n0,n1,decide_true,decide_false,if_true,Option.bind_some]
 rw[if_neg(by simp)]
 by_cases he:r=65533
 ·rw[if_pos(by simpa using he)]
  have r0:EP [a,b]0=((a.toNat:Int),1):=by
   rcases R1 [a,b]0(by simp)with⟨_,e⟩|⟨e,_⟩
   ·exact e
   ·simp at e;omega
  have r1:EP [a,b]1=((b.toNat:Int),1):=by
   rcases R1 [a,b]1(by simp)with⟨_,e⟩|⟨e,_⟩
   ·exact e
   ·simp at e;omega
  have x0: ¬(a.toNat:Int)=65533:=by omega
  have x1: ¬(b.toNat:Int)=65533:=by omega
  rw[Ml(n:=3)(b:= .inl())]
  ·rfl
  ·simp[HU,r0,r1,x0,x1]
 ·rw[if_neg(by simpa using he)]
  obtain⟨v,hv⟩:=Yx r
  simp only[hv,Option.bind_some]
  cases v with
  |false=>simp
  |true=>
   obtain⟨p,c,e,h1,h2,h3⟩:=enc_len r h
   simp only[Bool.not_true,Bool.false_eq_true,if_false,e]
   have hl:((p++[c]).length:Int)-1=(p.length:Nat):=by simp
   rw[hl,B1(by omega)]
   by_cases hp:p.length=1
   ·rw[Ml(n:=1)(b:= .inr(-1))]
    ·rfl
    ·have i1:Fv [a,b]((p.length:Nat):Int)=some b:=by rw[BF,hp];rfl
     have i2:Fv(p++[c])((p.length:Nat):Int)=some c:=by rw[BF,List.getElem?_append_right(Nat.le_refl _),Nat.sub_self];rfl
     have hbc: ¬(b.toNat:Int)=(c.toNat:Int):=by omega
     have hs:Vk [a,b](some(IntKind.i64.wrap((p.length:Int)+1)))none=some []:=by
      rw[hp,show((1:Nat):Int)+1=((2:Nat):Int)from rfl,B1(by omega),Z4(by simp)];rfl
     have hf:Ft []c=some(-1):=rfl
     have hlt:((p.length:Nat):Int)<(([a,b]:AN).length:Int):=by rw[hp];simp
     simp only[HU,hlt,decide_true,if_true,i1,i2,hs,hf,Option.bind_some,hbc,decide_false,Bool.not_false]
     simp
   ·rw[Ml(n:=1)(b:= .inl())]
    ·rfl
    ·have hlt: ¬((p.length:Nat):Int)<(([a,b]:AN).length:Int):=by simp;omega
     simp only[HU,hlt,decide_false,Bool.false_eq_true,if_false]
     rfl
theorem dO(a b:UInt8)(c:UInt8)(h:c.toNat<128):Dc [a,b](c.toNat:Int)=some(N5 [a,b]c):=by
 unfold Dc
 have n1:(c.toNat:Int)<128:=by omega
 have n0:(0:Int)≤(c.toNat:Int):=by omega
 have hc:IT.u8.ofI(c.toNat:Int)=c:=by
  show UInt8.ofNat(IntKind.u8.wrap(c.toNat:Int)).toNat=c
  have:IntKind.u8.wrap(c.toNat:Int)=c.toNat:=by simp only[IntKind.wrap,IntKind.bits,IntKind.signed];simp;omega
  rw[this];simp
 simp only[D1,n0,n1,decide_true,if_true,Option.bind_some,hc,Zc]
def two(a b c:UInt8):Bool:=c==a||c==b
theorem find2(a b c:UInt8):0≤N5 [a,b]c↔two a b c=true:=by
 unfold N5 two
 by_cases h1:a=c
 ·subst h1;simp[List.findIdx?_cons]
 ·by_cases h2:b=c
  ·subst h2
   have:(a==b)=false:=by simpa using h1
   simp[List.findIdx?_cons,this]
  ·have e1:(a==c)=false:=by simpa using h1
   have e2:(b==c)=false:=by simpa using h2
   have e3:(c==a)=false:=by simpa using Ne.symm h1
   have e4:(c==b)=false:=by simpa using Ne.symm h2
   simp[List.findIdx?_cons,e1,e2,e3,e4]
def rZ(a b:UInt8):Ar Bool 256:=((Ay 256 T.b).z.set a.toNat true).set b.toNat true
theorem yJ(a b:UInt8)(ha:a.toNat<128)(hb:b.toNat<128):Fs [a,b]=some(rZ a b,true):=by
 unfold Fs
 have na: ¬((128:UInt8).toNat:Int)≤(a.toNat:Int):=by show¬(128:Int)≤_;omega
 have nb: ¬((128:UInt8).toNat:Int)≤(b.toNat:Int):=by show¬(128:Int)≤_;omega
 have w1:IntKind.i64.wrap((0:Int)+1)=1:=rfl
 have w2:IntKind.i64.wrap((1:Int)+1)=2:=rfl
 have g0:Fv [a,b]0=some a:=rfl
 have g1:Fv [a,b]1=some b:=rfl
 have l0:(0:Int)<(([a,b]:AN).length:Int):=by simp
 have l1:(1:Int)<(([a,b]:AN).length:Int):=by simp
 have l2: ¬(2:Int)<(([a,b]:AN).length:Int):=by simp
 rw[Ml(n:=3)(b:= .inl(rZ a b))]
 ·rfl
 ·simp only[HU,l0,l1,l2,g0,g1,na,nb,w1,w2,decide_true,decide_false,if_true,Bool.false_eq_true,if_false,Option.bind_some,Co(show a.toNat<256 by omega),Co(show b.toNat<256 by omega),if_pos(show a.toNat<256 by omega),if_pos(show b.toNat<256 by omega)]
  rfl
theorem uJ(a b c:UInt8):C7(some(rZ a b))c=some(two a b c):=by
 have hl:(rZ a b).l=((List.replicate 256 false).set a.toNat true).set b.toNat true:=rfl
 have h:(rZ a b).l[c.toNat]? =some(two a b c):=by
  have hc:=c.toNat_lt
  rw[hl]
  simp only[List.getElem?_set,List.length_set,List.length_replicate,List.getElem?_replicate,two]
  by_cases h1:b.toNat=c.toNat
  ·have:=UInt8.toNat_inj.1 h1
   subst this
   have:=b.toNat_lt
   simp;omega
  ·have e1:(c==b)=false:=by rw[beq_eq_false_iff_ne];exact fun e=>h1(by rw[e])
   rw[if_neg h1]
   by_cases h2:a.toNat=c.toNat
   ·have:=UInt8.toNat_inj.1 h2
    subst this
    have:=a.toNat_lt
    simp;omega
   ·have e2:(c==a)=false:=by rw[beq_eq_false_iff_ne];exact fun e=>h2(by rw[e])
    rw[if_neg h2,if_pos(by simpa using hc)]
    simp[e1,e2]
 simp[C7,Fv,h]
theorem VP(l:AN)(a b:UInt8)(ha:a.toNat<128)(hb:b.toNat<128)(hl:l.length<1073741824):FP l [a,b]=some(l.any(two a b)):=by
 have key: ∃r:Int,Hz l [a,b]=some r∧(0≤r↔l.any(two a b)=true):=by
  unfold Hz
  rw[if_neg(by simp),if_neg(by simp)]
  simp only[Fg,Option.bind_some]
  by_cases h8:(8:Int)<(l.length:Int)
  ·rw[if_pos(by simpa using h8)]
   simp only[yJ a b ha hb,Option.bind_some,if_true]
   obtain⟨r,e,hr⟩:=N0(F:=fun(s26:Int)=>
    if(decide(s26<(l.length:Int)))=true then
    (Fv l s26).bind fun x30=>
    (C7(some(rZ a b))x30).bind fun x31=>
    if x31=true then
    (some s26).map fun r=> .inr(.inr r)
    else
    some(.inl(IntKind.i64.wrap(s26+1)))
    else
    some(.inr(.inl()):_⊕Unit⊕Int))(fun s=>l.length-s.toNat)(fun s=> ∃n:Nat,s=(n:Int)∧n≤l.length∧(l.take n).any(two a b)=false)
    (fun r=>(r= .inl()∧l.any(two a b)=false)∨ ∃n:Nat,r= .inr(n:Int)∧l.any(two a b)=true)(by
     rintro s⟨n,rfl,h1,h2⟩
     by_cases hn:n<l.length
     ·rw[if_pos(by simpa using hn),BF,List.getElem?_eq_getElem hn]
      simp only[Option.bind_some,uJ]
      by_cases hx:two a b l[n]=true
      ·right
       refine⟨_,by rw[if_pos hx];rfl, .inr⟨n,rfl,?_⟩⟩
       rw[List.any_eq_true];exact⟨_,List.getElem_mem hn,hx⟩
      ·left
       rw[if_neg hx,show(n:Int)+1=((n+1:Nat):Int)by omega,B1(by omega)]
       refine⟨_,rfl,⟨n+1,rfl,by omega,?_⟩,by omega⟩
       rw[List.take_succ_eq_append_getElem hn,List.any_append,h2]
       simpa using hx
     ·right
      rw[if_neg(by simpa using hn)]
      refine⟨_,rfl, .inl⟨rfl,?_⟩⟩
      rwa [List.take_of_length_le(by omega)]at h2)(s:=0)⟨0,rfl,by omega,by simp⟩
   rw[e]
   rcases hr with⟨rfl,hr⟩|⟨n,rfl,hr⟩
   ·exact⟨-1,rfl,by simp[hr]⟩
   ·exact⟨n,rfl,by simp[hr]⟩
  ·rw[if_neg(by simpa using h8)]
   obtain⟨r,e,hr⟩:=N0(F:=fun(s14:Nat)=>
    if s14<l.length then
    (Dc [a,b](EP l s14).1).bind fun x19=>
    if(decide(0≤x19))=true then
    (some((s14:Nat):Int)).map fun r=> .inr(.inr r)
    else
    some(.inl(s14+(EP l s14).2))
    else
    some(.inr(.inl()):_⊕Unit⊕Int))(fun s=>l.length-s)(fun n=>n≤l.length∧(l.take n).any(two a b)=false)
    (fun r=>(r= .inl()∧l.any(two a b)=false)∨ ∃n:Nat,r= .inr(n:Int)∧l.any(two a b)=true)(by
     rintro n⟨h1,h2⟩
     by_cases hn:n<l.length
     ·rw[if_pos hn]
      rcases R1 l n hn with⟨hlo,e⟩|⟨hhi,e1,e2,e3⟩
      ·simp only[e,dO a b _ hlo,Option.bind_some,find2,decide_eq_true_eq]
       by_cases hx:two a b l[n]=true
       ·right
        refine⟨_,by rw[if_pos hx];rfl, .inr⟨n,rfl,?_⟩⟩
        rw[List.any_eq_true];exact⟨_,List.getElem_mem hn,hx⟩
       ·left
        rw[if_neg hx]
        refine⟨_,rfl,⟨by omega,?_⟩,by omega⟩
        rw[List.take_succ_eq_append_getElem hn,List.any_append,h2]
        simpa using hx
      ·left
       simp only[dP a b ha hb _ e1,Option.bind_some]
       have hle:n+(EP l n).2≤l.length:=by
        obtain⟨hj,_⟩:=e3((EP l n).2-1)(by omega)
        omega
       refine⟨n+(EP l n).2,by simp,⟨hle,?_⟩,by omega⟩
       rw[List.any_eq_false]at h2 ⊢
       intro x hx
       obtain⟨i,hi,rfl⟩:=List.mem_iff_getElem.1 hx
       rw[List.length_take]at hi
       rw[List.getElem_take]
       by_cases hin:i<n
       ·exact h2 _(List.mem_iff_getElem.2⟨i,by rw[List.length_take];omega,by rw[List.getElem_take]⟩)
       ·obtain⟨hj,hv⟩:=e3(i-n)(by omega)
        have:l[n+(i-n)]=l[i]:=by congr 1;omega
        rw[this]at hv
        intro ht
        simp only[two,Bool.or_eq_true,beq_iff_eq]at ht
        rcases ht with ht|ht<;>rw[ht]at hv<;>omega
     ·right
      rw[if_neg hn]
      refine⟨_,rfl, .inl⟨rfl,?_⟩⟩
      rwa [List.take_of_length_le(by omega)]at h2)(s:=0)⟨by omega,by simp⟩
   rw[e]
   rcases hr with⟨rfl,hr⟩|⟨n,rfl,hr⟩
   ·exact⟨-1,rfl,by simp[hr]⟩
   ·exact⟨n,rfl,by simp[hr]⟩
 obtain⟨r,e,hr⟩:=key
 simp only[FP,e,Option.bind_some]
 congr 1
 rw[Bool.eq_iff_iff];simpa using hr
end Go.Proofs.YtobejhpigbllpaaGreatDoor.Am
namespace Go.Proofs.YtobejhpigbllpaaGreatDoor.Am
theorem Zk(l:AN)(c:UInt8):H3 l [c]=some(decide(c∈l)):=by
 simp only[H3,tP,Option.bind_some]
 congr 1
 rw[Bool.eq_iff_iff]
 simp only[decide_eq_true_eq]
 rcases jZ l c with⟨h,e⟩|⟨p,q,rfl,h,e⟩
 ·rw[e]
  exact⟨fun h=>by omega,fun hm=>absurd rfl(h c hm)⟩
 ·rw[e];simp
theorem dR(l:AN)(c:UInt8)(hl:l.length<1073741824):Qg l c=some(decide(c∈l)):=by
 simp only[Qg,QY l c hl,Option.bind_some]
 show some(decide((1:Int)<((F2 c l).length:Int)))=_
 congr 1
 rw[Bool.eq_iff_iff]
 simp only[decide_eq_true_eq]
 have h:=W0(c:=c)l
 have:0<l.countP(fun x=>x==c)↔c∈l:=by
  rw[List.countP_pos_iff]
  exact⟨fun⟨x,hx,e⟩=>by rwa [←(by simpa using e:x=c)],fun hx=>⟨c,hx,by simp⟩⟩
 rw[←this];omega
theorem any_two(l:AN)(a b:UInt8):l.any(two a b)=(decide(a∈l)||decide(b∈l)):=by
 rw[Bool.eq_iff_iff]
 simp only[List.any_eq_true,two,Bool.or_eq_true,beq_iff_eq,decide_eq_true_eq]
 constructor
 ·rintro⟨x,hx,rfl|rfl⟩
  ·exact .inl hx
  ·exact .inr hx
 ·rintro(h|h)
  ·exact⟨a,h, .inl rfl⟩
  ·exact⟨b,h, .inr rfl⟩
def QT(k v:AN):AN×Int:=if k=[]∨61∈k∨10∈k∨10∈v then([],5)else if 512<(k++[61]++v).length then([],4)else(k++[61]++v,0)
theorem Zz(k v:AN)(hk:k.length<1073741824)(hv:v.length<1073741824):((if k.length+[61].length≤2*Bf then some(k++([61]:AN))else none).bind fun x10=>
  (if x10.length+v.length≤2*Bf then some(x10++v)else none).bind fun x12=>
  if(decide(512<(x12.length:Int)))=true then
  some(([]:AN),(4:Int))
  else
  some(x12,0))=some(if 512<(k++[61]++v).length then([],4)else(k++[61]++v,0)):=by
 rw[if_pos(by unfold Bf;simp;omega),Option.bind_some,if_pos(by unfold Bf;simp;omega),Option.bind_some]
 by_cases h:512<(k++[61]++v).length
 ·rw[if_pos h,if_pos(by rw[decide_eq_true_eq];omega)]
 ·rw[if_neg h,if_neg(by rw[decide_eq_true_eq];omega)]
theorem vE(k v:AN)(hk:k.length<1073741824)(hv:v.length<1073741824):Ie⟨k,v⟩=some(QT k v):=by
 unfold Ie
 simp only[VP k 61 10(by decide)(by decide)hk,any_two,Zk,Option.bind_some,Zz k v hk hv,Ig]
 by_cases h1:k=[]<;>by_cases h2:(61:UInt8)∈k<;>by_cases h3:(10:UInt8)∈k<;>by_cases h4:(10:UInt8)∈v<;>simp[QT,h1,h2,h3,h4]
theorem cP(k v:AN)(hk:k.length<1073741824)(hv:v.length<1073741824):Sy⟨k,v⟩=some(QT k v):=by
 unfold Sy
 simp only[dR k 61 hk,dR k 10 hk,dR v 10 hv,Option.bind_some,Zz k v hk hv,Ig]
 by_cases h1:k=[]<;>by_cases h2:(61:UInt8)∈k<;>by_cases h3:(10:UInt8)∈k<;>by_cases h4:(10:UInt8)∈v<;>simp[QT,h1,h2,h3,h4]
def AaP(a k v:AN):Prop:=a=k++61::v∧61∉k∧k≠[]∧10∉a∧a.length≤512
end Go.Proofs.YtobejhpigbllpaaGreatDoor.Am
namespace Go.Proofs.YtobejhpigbllpaaGreatDoor.Am
def RT(l:List AN):AN:=l.flatMap fun x=>x++[10]
theorem fR(x:AN)(l:List AN):RT(x::l)=x++10::RT l:=by simp[RT]
theorem bC(a b:List AN):RT(a++b)=RT a++RT b:=by simp[RT]
theorem pJ(x:AN):RT [x]=x++[10]:=by simp[RT]
theorem fQ(a:List AN)(x:AN):RT(a++[x])=RT a++x++[10]:=by rw[bC,pJ,List.append_assoc]
theorem vC{l:List AN}{n:Nat}(h:n<l.length):RT(l.take(n+1))=RT(l.take n)++l[n]++[10]:=by
 rw[List.take_succ_eq_append_getElem h,fQ]
theorem txt_le(l:List AN)(n:Nat):(RT(l.take n)).length≤(RT l).length:=by
 have:=congrArg List.length(bC(l.take n)(l.drop n))
 rw[List.take_append_drop,List.length_append]at this
 omega
theorem pK(l:List AN)(n:Nat)(h: ∀x∈l,x.length≤n):(RT l).length≤l.length*(n+1):=by
 induction l with
 |nil=>simp[RT]
 |cons x l ih=>
  have h1:=ih fun y hy=>h y(List.mem_cons_of_mem _ hy)
  have h2:=h x List.mem_cons_self
  rw[fR,List.length_append,List.length_cons,List.length_cons,Nat.succ_mul];omega
theorem len_txt(l:List AN):l.length≤(RT l).length:=by
 induction l with
 |nil=>simp
 |cons x l ih=>rw[fR,List.length_append,List.length_cons,List.length_cons];omega
theorem yW(g:GS AN)(h:(RT g.l).length≤Bf):Og g=some(RT g.l):=by
 have hl:=len_txt g.l
 unfold Bf at h
 unfold Og
 refine Cg(fun s=>g.l.length-s.1.toNat)(fun s=> ∃n:Nat,s.1=n∧n≤g.l.length∧s.2=RT(g.l.take n))(fun r=>r= .inl(RT g.l))⟨0,rfl,by omega,by simp[RT]⟩ ?_ ?_
 rotate_left
 ·rintro _ rfl
  simp only[Sum.elim_inl,eV]
  rw[if_pos⟨by unfold Bf;exact h,fun e=>by cases e⟩];rfl
 ·rintro⟨s,b⟩⟨n,rfl,h1,h2⟩
  dsimp only at h2 ⊢
  subst h2
  by_cases hn:n<g.l.length
  ·have h3:=vC hn
   have h4:=txt_le g.l(n+1)
   rw[h3]at h4
   simp only[List.length_append,List.length_cons,List.length_nil]at h4
   rw[if_pos(by simpa using hn),BF,List.getElem?_eq_getElem hn]
   left
   refine⟨((n:Int)+1,RT(g.l.take(n+1))),?_,⟨n+1,by simp,by omega,rfl⟩,by dsimp only;omega⟩
   simp only[Option.bind_some,Ma]
   rw[if_pos(by unfold Bf;omega)]
   simp only[Option.bind_some]
   rw[if_pos(by unfold Bf;simp;omega),Option.bind_some,←h3,show(n:Int)+1=((n+1:Nat):Int)by omega,B1(by omega)]
  ·right
   rw[if_neg(by simpa using hn)]
   exact⟨_,rfl,by rw[List.take_of_length_le(by omega)]⟩
end Go.Proofs.YtobejhpigbllpaaGreatDoor.Am
namespace Go.Proofs.YtobejhpigbllpaaGreatDoor.Am
theorem X8{α:Type}{q:α→Bool}: ∀{l:List α}{n:Nat}{x:α},l[n]? =some x→(∀y∈l.take n,q y=false)→q x=true→l.find? q=some x
 |[],_,_,h,_,_=>by simp at h
 |y::l,0,x,h,_,hq=>by simp only[List.getElem?_cons_zero,Option.some.injEq]at h;subst h;simp[hq]
 |y::l,n+1,x,h,ha,hq=>by
  have h1:=ha y(by simp)
  rw[List.find?_cons,h1]
  exact X8(n:=n)(by simpa using h)(fun z hz=>ha z(by simp[hz]))hq
def Ro(p:A7):AN×Int:=QT p.Key p.Value
def Tq(p:A7):Bool:=decide((Ro p).2≠0)
def GI(p:A7):AN:=p.Key++61::p.Value
def Uy(l:List A7):AN×Int:=
 if 400<l.length then([],4)else match l.find? Tq with
  |some p=>([],(Ro p).2)
  |none=>(RT(l.map GI)++[10],0)
theorem vF{k v:AN}(h:(QT k v).2=0):(QT k v).1=k++61::v∧AaP(k++61::v)k v:=by
 unfold QT at h ⊢
 by_cases hc:k=[]∨61∈k∨10∈k∨10∈v
 ·rw[if_pos hc]at h;simp at h
 ·rw[if_neg hc]at h ⊢
  by_cases hl:512<(k++[61]++v).length
  ·rw[if_pos hl]at h;simp at h
  ·rw[if_neg hl]
   refine⟨by simp,rfl,fun h=>hc(.inr(.inl h)),fun h=>hc(.inl h),fun h=> ?_,by simp at hl ⊢;omega⟩
   simp only[List.mem_append,List.mem_cons]at h
   rcases h with h|h|h
   ·exact hc(.inr(.inr(.inl h)))
   ·exact absurd h(by decide)
   ·exact hc(.inr(.inr(.inr h)))
theorem fT{k v:AN}(s:AaP(k++61::v)k v):QT k v=(k++61::v,0):=by
 have hm:=s.2.2.2.1
 have hle:=s.2.2.2.2
 simp only[List.mem_append,List.mem_cons,not_or]at hm
 unfold QT
 rw[if_neg(by
  rintro(h|h|h|h)
  ·exact s.2.2.1 h
  ·exact s.2.1 h
  ·exact hm.1 h
  ·exact hm.2.2 h),if_neg(by simp at hle ⊢;omega)]
 simp
theorem Yh{p:A7}(h:Tq p=false):Ro p=(GI p,0)∧AaP(GI p)p.Key p.Value:=by
 simp only[Tq,ne_eq,decide_not,Bool.not_eq_false',decide_eq_true_eq]at h
 obtain⟨h1,h2⟩:=vF h
 exact⟨Prod.ext h1 h,h2⟩
theorem uQ{p:A7}(h:Tq p=true):(Ro p).2≠0:=by simpa [Tq]using h
theorem badP_of{p:A7}(s:AaP(GI p)p.Key p.Value):Tq p=false:=by
 have:=fT s
 simp[Tq,Ro,this]
def FitP(l:List A7):Prop:= ∀p∈l,p.Key.length<1073741824∧p.Value.length<1073741824
theorem tE{l:List A7}(h: ∀p∈l,Tq p=false)(hl:l.length≤400):(RT(l.map GI)).length≤205200:=by
 have:=pK(l.map GI)512(fun x hx=>by
  obtain⟨p,hp,rfl⟩:=List.mem_map.1 hx
  exact(Yh(h p hp)).2.2.2.2.2)
 rw[List.length_map]at this
 have h2:l.length*513≤400*513:=Nat.mul_le_mul_right _ hl
 omega
theorem aL(g:GS A7)(hf:FitP g.l):Em g=some(Uy g.l):=by
 unfold Em Uy
 by_cases h4:400<g.l.length
 ·rw[if_pos h4,if_pos(by rw[decide_eq_true_eq];omega)]
 rw[if_neg h4,if_neg(by rw[decide_eq_true_eq];omega)]
 refine Cg(fun s=>g.l.length-s.1.toNat)(fun s=> ∃n:Nat,s.1=n∧n≤g.l.length∧(∀p∈g.l.take n,Tq p=false)∧s.2.l=(g.l.take n).map GI)
  (fun r=>(∃b:GS AN,r= .inl b∧(∀p∈g.l,Tq p=false)∧b.l=g.l.map GI)∨ ∃p,r= .inr([],(Ro p).2)∧g.l.find? Tq=some p)⟨0,rfl,by omega,by simp,rfl⟩ ?_ ?_
 ·rintro⟨s,b⟩⟨n,rfl,h1,h2,h3⟩
  dsimp only at h3 ⊢
  by_cases hn:n<g.l.length
  ·rw[if_pos(by simpa using hn),BF,List.getElem?_eq_getElem hn]
   have hfit:=hf _(List.getElem_mem hn)
   have ht:Ie g.l[n]=some(Ro g.l[n]):=vE _ _ hfit.1 hfit.2
   simp only[Option.bind_some,ht]
   by_cases hb:Tq g.l[n]=true
   ·right
    rw[if_pos(by simpa using uQ hb)]
    exact⟨_,rfl, .inr⟨_,rfl,X8(List.getElem?_eq_getElem hn)h2 hb⟩⟩
   ·left
    have hb':Tq g.l[n]=false:=by simpa using hb
    obtain⟨e,_⟩:=Yh hb'
    rw[e]
    have hlen:b.l.length=n:=by rw[h3,List.length_map,List.length_take];omega
    rw[Kt(by unfold Bf;omega),show(n:Int)+1=((n+1:Nat):Int)by omega,B1(by omega)]
    refine⟨(((n+1:Nat):Int), .mk(b.l++[GI g.l[n]])),by simp,⟨n+1,rfl,by omega,fun p hp=> ?_,?_⟩,by dsimp only;omega⟩
    ·rw[List.take_succ_eq_append_getElem hn]at hp
     rcases List.mem_append.1 hp with hp|hp
     ·exact h2 p hp
     ·rw[List.mem_singleton.1 hp];exact hb'
    ·rw[List.take_succ_eq_append_getElem hn,List.map_append,←h3];rfl
  ·right
   rw[if_neg(by simpa using hn)]
   rw[List.take_of_length_le(by omega)]at h2 h3
   exact⟨_,rfl, .inl⟨b,rfl,h2,h3⟩⟩
 ·rintro _(⟨b,rfl,h1,h2⟩|⟨p,rfl,h⟩)
  ·have hlen:b.l.length=g.l.length:=by rw[h2,List.length_map]
   have hfind:g.l.find? Tq=none:=by rw[List.find?_eq_none];exact fun x hx=>by simp[h1 x hx]
   have hfit:=tE h1(by omega)
   have ht:RT(b.l++[[]])=RT(g.l.map GI)++[10]:=by rw[h2,fQ];simp
   simp only[Sum.elim_inl,hfind]
   rw[Kt(by unfold Bf;omega),Option.bind_some,yW _(by rw[Fc,ht];unfold Bf;simp;omega),Fc,ht]
   rfl
  ·simp only[Sum.elim_inr,h]
end Go.Proofs.YtobejhpigbllpaaGreatDoor.Am
namespace Go.Proofs.YtobejhpigbllpaaGreatDoor.Am
theorem Ui{σ β γ:Type}{F:σ→Option(σ⊕β)}{s:σ}{K:β→Option γ}{r:Option γ}(n:Nat)(b:β)(h:HU F n s=some b)(hk:K b=r):(iter F s).bind K=r:=by
 rw[Ml h];exact hk
def KE:Nat→Nat→AN
 |0,_=>[]
 |k+1,n=>if n<10 then [UInt8.ofNat(48+n)]else KE k(n/10)++[UInt8.ofNat(48+n%10)]
def Dz(n:Nat):AN:=KE 20 n
theorem XO: ∀(k n:Nat),n<10^(k+1)→KE(k+2)n=KE(k+1)n
 |0,n,h=>by
  have h:n<10:=by simpa using h
  simp[KE,h]
 |k+1,n,h=>by
  by_cases hn:n<10
  ·simp[KE,hn]
  ·have hd:n/10<10^(k+1):=by
    rw[Nat.div_lt_iff_lt_mul(by decide),←Nat.pow_succ];exact h
   have ih:=XO k(n/10)hd
   rw[KE,if_neg hn,ih]
   conv=>rhs;rw[KE,if_neg hn]
theorem rB{n:Nat}(h:n<18446744073709551616):Dz n=if n<10 then [UInt8.ofNat(48+n)]else Dz(n/10)++[UInt8.ofNat(48+n%10)]:=by
 unfold Dz
 rw[XO 18(n/10)(by omega)]
 rfl
theorem aG: ∀(k n:Nat),(KE k n).length≤k
 |0,_=>by simp[KE]
 |k+1,n=>by
  rw[KE]
  split
  ·simp
  ·simp[aG k]
theorem Hr(n:Nat):(Dz n).length≤20:=aG 20 n
theorem Wx{m:Nat}(h:m<18446744073709551616):(IT.u64.ofI(m:Int)).toNat=m:=by
 show(UInt64.ofNat((m:Int)%18446744073709551616).toNat).toNat=m
 rw[show((m:Int)%18446744073709551616).toNat=m by omega]
 simp[UInt64.toNat_ofNat,h]
theorem u8_of{m:Nat}(h:m<256):IT.u8.ofI(m:Int)=UInt8.ofNat m:=by
 show UInt8.ofNat((m:Int)%256).toNat=_
 rw[show((m:Int)%256).toNat=m by omega]
theorem r03_r: ∀(k:Nat)(a:UInt64),(DT k a=none∨DT k a=some(Dz a.toNat))∧(a.toNat<10^(k+1)→DT(k+1)a=some(Dz a.toNat)):=by
 have step: ∀(k:Nat)(a:UInt64),DT(k+1)a=if a.toNat<10 then some(Dz a.toNat)else(DT k(IT.u64.ofI((a.toNat/10:Nat):Int))).bind fun x=>if x.length+1≤2*Bf then some(x++[UInt8.ofNat(48+a.toNat%10)])else none:=by
  intro k a
  have ha:=a.toNat_lt
  have e10:((10:UInt64).toNat:Int)=((10:Nat):Int):=rfl
  have e48:((48:UInt64).toNat:Int)=((48:Nat):Int):=rfl
  have hm:(IT.u64.ofI(Int.tmod(a.toNat:Int)((10:Nat):Int))).toNat=a.toNat%10:=by
   rw[←Int.ofNat_tmod,Wx(by omega)]
  have h48:(IT.u64.ofI(((48:Nat):Int)+((a.toNat%10:Nat):Int))).toNat=48+a.toNat%10:=by
   rw[show(((48:Nat):Int)+((a.toNat%10:Nat):Int))=((48+a.toNat%10:Nat):Int)by omega,Wx(by omega)]
  rw[DT,e10,if_neg(by decide),Option.bind_some]
  simp only[e48,hm,h48]
  rw[u8_of(by omega)]
  by_cases hl:a.toNat<10
  ·rw[if_pos(by rw[decide_eq_true_eq];omega),if_pos hl,rB(by omega),if_pos hl,show 48+a.toNat%10=48+a.toNat by omega]
  ·rw[if_neg(by rw[decide_eq_true_eq];omega),if_neg hl,if_neg(by decide),Option.bind_some,←Int.ofNat_tdiv]
   cases DT k(IT.u64.ofI((a.toNat/10:Nat):Int))with
   |none=>rfl
   |some x=>simp[Option.bind_some]
 have fin: ∀(k:Nat)(a:UInt64),¬a.toNat<10→DT k(IT.u64.ofI((a.toNat/10:Nat):Int))=some(Dz(IT.u64.ofI((a.toNat/10:Nat):Int)).toNat)→DT(k+1)a=some(Dz a.toNat):=by
  intro k a hl e
  have ha:=a.toNat_lt
  rw[step,if_neg hl,e,Wx(by omega),Option.bind_some,if_pos(by have:=Hr(a.toNat/10);unfold Bf;omega)]
  conv=>rhs;rw[rB(by omega),if_neg hl]
 intro k
 induction k with
 |zero=>
  intro a
  refine⟨.inl rfl,fun h=> ?_⟩
  rw[step,if_pos(by simpa using h)]
 |succ k ih=>
  intro a
  have ha:=a.toNat_lt
  refine⟨?_,fun h=> ?_⟩
  ·by_cases hl:a.toNat<10
   ·right;rw[step,if_pos hl]
   ·rcases(ih(IT.u64.ofI((a.toNat/10:Nat):Int))).1 with e|e
    ·left;rw[step,if_neg hl,e];rfl
    ·right;exact fin k a hl e
  ·by_cases hl:a.toNat<10
   ·rw[step,if_pos hl]
   ·refine fin(k+1)a hl((ih _).2 ?_)
    rw[Wx(by omega),Nat.div_lt_iff_lt_mul(by decide),←Nat.pow_succ]
    exact h
theorem S5(a:UInt64):FT a=some(Dz a.toNat):=
 jS(fun n=>(r03_r n a).1)((r03_r 19 a).2(by have:=a.toNat_lt;omega))
def ZW{α:Type}:List α→GS α
 |[]=> .nil
 |x::l=> .mk(x::l)
theorem Rg{α:Type}: ∀l:List α,(ZW l).l=l
 |[]=>rfl
 |_::_=>rfl
theorem PM{α:Type}: ∀(l:List α)(x:α),ZW(l++[x])= .mk(l++[x])
 |[],_=>rfl
 |_::_,_=>rfl
theorem TU(l:GS Ap)(ps:List(A7×Int))(h:l.l.map FJ=ps.map some)(hl:l.l.length<1000000000):G1 l=some(ZW(ps.map(·.1))):=by
 have hlen:l.l.length=ps.length:=by have:=congrArg List.length h;simpa using this
 unfold G1
 refine Cg(fun s=>l.l.length-s.1.toNat)(fun s=> ∃n:Nat,s.1=n∧n≤l.l.length∧s.2=ZW((ps.take n).map(·.1)))(fun r=>r= .inl(ZW(ps.map(·.1))))⟨0,rfl,by omega,rfl⟩ ?_ ?_
 rotate_left
 ·rintro _ rfl;rfl
 ·rintro⟨s,b⟩⟨n,rfl,h1,h2⟩
  dsimp only at h2 ⊢
  subst h2
  by_cases hn:n<l.l.length
  ·rw[if_pos(by simpa using hn),BF,List.getElem?_eq_getElem hn]
   have hp:FJ l.l[n]=some(ps[n]'(by omega)):=by
    have:=congrArg(fun x=>x[n]?)h
    simp only[List.getElem?_map,List.getElem?_eq_getElem hn,List.getElem?_eq_getElem(show n<ps.length by omega),Option.map_some,Option.some.injEq]at this
    exact this
   have hbl:(ZW((ps.take n).map(·.1))).l.length=n:=by rw[Rg,List.length_map,List.length_take];omega
   left
   simp only[Option.bind_some,hp]
   rw[Kt(by unfold Bf;omega),show(n:Int)+1=((n+1:Nat):Int)by omega,B1(by omega)]
   refine⟨_,rfl,⟨n+1,rfl,by omega,?_⟩,by dsimp only;omega⟩
   rw[List.take_succ_eq_append_getElem(by omega),List.map_append,Rg]
   exact(PM _ _).symm
  ·right
   rw[if_neg(by simpa using hn)]
   exact⟨_,rfl,by rw[List.take_of_length_le(by omega)]⟩
def QN(n:Nat):Ap:=⟨16,(Ay 32 T.u8).z,UInt64.ofNat n,Ao.z,Aj.z⟩
def XK(n:Nat):A7:=⟨[101,114,114,110,111],Dz n⟩
theorem gZ: ∀n:Fin 21,FJ(QN n.1)=some(XK n.1,0):=by decide+kernel
def fitB(l:List A7):Bool:=l.all fun p=>decide(p.Key.length<1073741824)&&decide(p.Value.length<1073741824)
theorem tY{l:List A7}(h:fitB l=true):FitP l:=by
 intro p hp
 have:=List.all_eq_true.1 h p hp
 simpa using this
theorem lM{g:GS A7}{r:AN×Int}(hf:fitB g.l=true)(h:Uy g.l=r):Em g=some r:=by
 rw[aL g(tY hf),h]
def cN(n:Nat):AN:=[101,114,114,110,111,61]++Dz n++[10,10]
theorem oT: ∀n:Fin 21,fitB [XK n.1]=true∧Uy [XK n.1]=(cN n.1,0):=by decide+kernel
theorem mG{n:Nat}(h:n<21):Hl(n:Int)=some(cN n):=by
 have h1:=gZ⟨n,h⟩
 have h2:=oT⟨n,h⟩
 have e:(IT.u64.ofI(n:Int))=UInt64.ofNat n:=by
  show UInt64.ofNat((n:Int)%18446744073709551616).toNat=_
  rw[show((n:Int)%18446744073709551616).toNat=n by omega]
 unfold Hl
 have ho:Ig(decide((n:Int)<0))(some(decide(20<(n:Int))))=some false:=by
  rw[decide_eq_false(by omega),decide_eq_false(by omega)];rfl
 have hp:G1(GS.mk [(⟨16,(Ay 32 T.u8).z,IT.u64.ofI(n:Int),Ao.z,Aj.z⟩:Ap)])=some(.mk [XK n]):=by
  have e2:(⟨16,(Ay 32 T.u8).z,IT.u64.ofI(n:Int),Ao.z,Aj.z⟩:Ap)=QN n:=congrArg(fun x=>(⟨16,(Ay 32 T.u8).z,x,Ao.z,Aj.z⟩:Ap))e
  rw[e2]
  exact TU(.mk [QN n]) [(XK n,0)](by simp only[Fc,List.map_cons,List.map_nil];exact congrArg(fun x=>[x])h1)(by simp)
 have hb:Em(.mk [XK n])=some(cN n,0):=lM h2.1 h2.2
 simp only[ho,Option.bind_some,Bool.false_eq_true,if_false,hp,hb]
theorem r39_in{n:Nat}(h:n<21):IN(n:Int)=some(cN n):=by
 unfold IN
 have ho:Ig(decide((n:Int)<0))(some(decide(20<(n:Int))))=some false:=by
  rw[decide_eq_false(by omega),decide_eq_false(by omega)];rfl
 have hd:=Hr n
 have hv:FT(IT.u64.ofI(n:Int))=some(Dz n):=by
  have:=S5(IT.u64.ofI(n:Int))
  rw[Wx(show n<18446744073709551616 by omega)]at this
  exact this
 simp only[ho,Option.bind_some,Bool.false_eq_true,if_false,hv]
 rw[if_pos(by unfold Bf;simp;omega)]
 simp only[Option.bind_some]
 rw[if_pos(by unfold Bf;simp;omega)]
 rfl
def rC:B6:=⟨(Ay 32 T.u8).z,0,0, .nil⟩
def fI:AN:=List.replicate 64 48
theorem zB:H8(.mk(List.replicate 32 0))=some fI:=by
 unfold H8
 exact Ui 33(.inl fI)(by decide+kernel)(by decide+kernel)
theorem right0:JI rC=some true:=by
 unfold JI
 have h1:JH rC.Port=some true:=by decide+kernel
 simp only[h1,Option.bind_some]
 exact Ui 1(.inl [])(by decide+kernel)(by decide+kernel)
def V1:Ap:=⟨1,(Ay 32 T.u8).z,0,Ao.z,Aj.z⟩
def tG:A7:=⟨[112,114,105,118,97,116,101,95,107,101,121],fI⟩
theorem hexK:Nw V1.Key=some fI:=by
 have h:(V1.Key.l.drop 0).take 32=List.replicate 32 0:=by decide+kernel
 unfold Nw
 rw[h,if_pos(by decide),zB]
 rfl
theorem yU:FI V1=some(fI,true):=by
 unfold FI;simp only[hexK,Option.bind_some]
theorem wN:FJ V1=some(tG,0):=by
 have hn:G8 V1.Word=some [112,114,105,118,97,116,101,95,107,101,121]:=by decide+kernel
 have h3:MQ V1=some V1:=by decide+kernel
 have hc:HN CI V1(⟨V1.Word,(Ay 32 T.u8).z,0,Ao.z,Aj.z⟩:Ap)=true:=by decide+kernel
 have h1:decide(V1.Word=1)=true:=rfl
 have hr:Gk V1=some true:=by
  unfold Gk
  simp only[hn,h1,Option.bind_some,yU,h3,hc,if_true,Sum.elim_inl]
  rfl
 unfold FJ
 simp only[hr,hn,h1,Option.bind_some,yU,if_true,Sum.elim_inl]
 rfl
def portF:Ap:=⟨2,(Ay 32 T.u8).z,0,Ao.z,Aj.z⟩
def ZD:A7:=⟨[108,105,115,116,101,110,95,112,111,114,116],[48]⟩
def markF:Ap:=⟨3,(Ay 32 T.u8).z,0,Ao.z,Aj.z⟩
def ZQ:A7:=⟨[102,119,109,97,114,107],[48]⟩
theorem sR:FJ portF=some(ZD,0):=by decide+kernel
theorem sS:FJ markF=some(ZQ,0):=by decide+kernel
def Wy:AN:=GI tG++[10]++GI ZD++[10]++GI ZQ++[10]++GI(XK 0)++[10,10]
theorem AaF:fitB [tG,ZD,ZQ,XK 0]=true∧Uy [tG,ZD,ZQ,XK 0]=(Wy,0):=by decide+kernel
theorem rT:Hk rC=some(Wy,0):=by
 have e0:QN 0=(⟨16,(Ay 32 T.u8).z,0,Ao.z,Aj.z⟩:Ap):=rfl
 unfold Hk
 simp only[right0,Option.bind_some,Bool.not_true,Bool.false_eq_true,if_false]
 refine Ui 1(.inl(.mk [V1,portF,markF]))rfl ?_
 simp only[Sum.elim_inl,←e0]
 rw[Kt(by unfold Bf;simp),Option.bind_some]
 rw[TU _ [(tG,0),(ZD,0),(ZQ,0),(XK 0,0)](by simp only[Fc,List.map_append,List.map_cons,List.map_nil,wN,sR,sS,List.cons_append,List.nil_append];rw[gZ⟨0,by decide⟩])(by simp)]
 simp only[Option.bind_some,List.map_cons,List.map_nil,ZW]
 rw[lM(g:= .mk [tG,ZD,ZQ,XK 0])AaF.1 AaF.2]
 rfl
theorem MJ:Nv()=some true:=by
 have hl: ∃g,Ql Wy=some g∧(g.l.length:Int)=5:=by
  have hp:=QY Wy 10(by decide+kernel)
  have h6:(F2 10 Wy).length=6∧(F2 10 Wy)[5]? =some []:=by decide+kernel
  unfold Ql
  simp only[hp,Option.bind_some,Fc]
  have hw:IntKind.i64.wrap(((F2 10 Wy).length:Int)-1)=((5:Nat):Int):=by rw[h6.1];decide
  rw[hw,BF,h6.2,slG_to(by omega)]
  exact⟨_,rfl,by simp[h6.1]⟩
 obtain⟨g,hg,h5⟩:=hl
 unfold Nv
 have e:(⟨(Ay 32 T.u8).z,0,0, .nil⟩:B6)=rC:=rfl
 have h7:Hl 7=some(cN 7):=mG(n:=7)(by omega)
 rw[e,rT]
 simp only[Option.bind_some,hg,h5,h7]
 decide+kernel
end Go.Proofs.YtobejhpigbllpaaGreatDoor.Am
namespace Go.Proofs.YtobejhpigbllpaaGreatDoor.Am
def wO:Nat→Nat→AN
 |0,_=>[]
 |w+1,n=>wO w(n/10)++[UInt8.ofNat(48+n%10)]
theorem lF: ∀(N k n:Nat),N<k→n<10^(N+1)→(N=0∨10^N≤n)→KE k n=wO(N+1)n
 |0,k+1,n,_,h,_=>by
  have hn:n<10:=by simpa using h
  rw[KE,if_pos hn]
  simp[wO,Nat.mod_eq_of_lt hn]
 |N+1,k+1,n,hk,h,h'=>by
  have h1:10^(N+1)≤n:=h'.resolve_left(by omega)
  have h10:10≤n:=Nat.le_trans(by rw[Nat.pow_succ];have:=Nat.pow_pos(n:=N)(show 0<10 by decide);omega)h1
  rw[KE,if_neg(by omega),lF N k(n/10)(by omega)((Nat.div_lt_iff_lt_mul(by decide)).2(by rw[←Nat.pow_succ];exact h))(.inr((Nat.le_div_iff_mul_le(by decide)).2(by rw[←Nat.pow_succ];exact h1)))]
  rfl
theorem Ke{m:Nat}(h:m<18446744073709551616):(BS(m:Int)).toNat=m:=u64N h
theorem NI{m:Nat}(h:m<4294967296):(CB(m:Int)).toNat=m:=by
 show(UInt32.ofNat((m:Int)%4294967296).toNat).toNat=m
 rw[show((m:Int)%4294967296).toNat=m by omega]
 simp[UInt32.toNat_ofNat,h]
theorem mod64(x c:UInt64)(hc:0<c.toNat): ∃y:UInt64,(if(c.toNat:Int)=0 then none else some(BS(Int.tmod(x.toNat:Int)(c.toNat:Int))))=some y∧y.toNat=x.toNat%c.toNat:=
 ⟨_,if_neg(by omega),by rw[←Int.ofNat_tmod,Ke(by have:=x.toNat_lt;have:=Nat.mod_le x.toNat c.toNat;omega)]⟩
theorem div64(x c:UInt64)(hc:0<c.toNat): ∃y:UInt64,(if(c.toNat:Int)=0 then none else some(BS(Int.tdiv(x.toNat:Int)(c.toNat:Int))))=some y∧y.toNat=x.toNat/c.toNat:=
 ⟨_,if_neg(by omega),by rw[←Int.ofNat_tdiv,Ke(by have:=x.toNat_lt;have:=Nat.div_le_self x.toNat c.toNat;omega)]⟩
theorem ZO(x c:UInt32)(hc:0<c.toNat): ∃y:UInt32,(if(c.toNat:Int)=0 then none else some(CB(Int.tmod(x.toNat:Int)(c.toNat:Int))))=some y∧y.toNat=x.toNat%c.toNat:=
 ⟨_,if_neg(by omega),by rw[←Int.ofNat_tmod,NI(by have:=x.toNat_lt;have:=Nat.mod_le x.toNat c.toNat;omega)]⟩
theorem aF(x c:UInt32)(hc:0<c.toNat): ∃y:UInt32,(if(c.toNat:Int)=0 then none else some(CB(Int.tdiv(x.toNat:Int)(c.toNat:Int))))=some y∧y.toNat=x.toNat/c.toNat:=
 ⟨_,if_neg(by omega),by rw[←Int.ofNat_tdiv,NI(by have:=x.toNat_lt;have:=Nat.div_le_self x.toNat c.toNat;omega)]⟩
theorem XP(x:UInt32)(h:x.toNat<1000):(CB((x.toNat:Int)*((2:UInt32).toNat:Int))).toNat=2*x.toNat:=by
 rw[show((x.toNat:Int)*((2:UInt32).toNat:Int))=((2*x.toNat:Nat):Int)by rw[show((2:UInt32).toNat:Int)=2 from rfl];omega,NI(by omega)]
theorem inc32(x:UInt32)(h:x.toNat<1000):((CB((x.toNat:Int)+((1:UInt32).toNat:Int))).toNat:Int)=((x.toNat+1:Nat):Int):=by
 rw[show((x.toNat:Int)+((1:UInt32).toNat:Int))=((x.toNat+1:Nat):Int)by rw[show((1:UInt32).toNat:Int)=1 from rfl];omega,NI(by omega)]
def bT:AN:=[48,48,48,49,48,50,48,51,48,52,48,53,48,54,48,55,48,56,48,57,49,48,49,49,49,50,49,51,49,52,49,53,49,54,49,55,49,56,49,57,50,48,50,49,50,50,50,51,50,52,50,53,50,54,50,55,50,56,50,57,51,48,51,49,51,50,51,51,51,52,51,53,51,54,51,55,51,56,51,57,52,48,52,49,52,50,52,51,52,52,52,53,52,54,52,55,52,56,52,57,53,48,53,49,53,50,53,51,53,52,53,53,53,54,53,55,53,56,53,57,54,48,54,49,54,50,54,51,54,52,54,53,54,54,54,55,54,56,54,57,55,48,55,49,55,50,55,51,55,52,55,53,55,54,55,55,55,56,55,57,56,48,56,49,56,50,56,51,56,52,56,53,56,54,56,55,56,56,56,57,57,48,57,49,57,50,57,51,57,52,57,53,57,54,57,55,57,56,57,57]
theorem mA: ∀k:Fin 100,bT[2*k.1+1]? =some(UInt8.ofNat(48+k.1%10))∧bT[2*k.1]? =some(UInt8.ofNat(48+k.1/10)):=by decide+kernel
def YR(A:Ar UInt8 24)(o k:Nat):Ar UInt8 24:=(A.set(o+1)(UInt8.ofNat(48+k%10))).set o(UInt8.ofNat(48+k/10))
theorem NW{N i o k:Nat}{A:Ar UInt8 24}{x:UInt32}{c d:Int}{γ:Type}{K:Ar UInt8 24→Option γ}(hN:N≤24)(hi:i≤N)(hx:x.toNat=2*k)(hk:k<100)(hc:(i:Int)-c=((o+1:Nat):Int))(hd:(i:Int)-d=(o:Nat))(ho:o+1<N):
  ((Fv bT((CB((x.toNat:Int)+((1:UInt32).toNat:Int))).toNat:Int)).bind fun y=>(Fv bT(x.toNat:Int)).bind fun z=>
   (if 0+N*1≤24 then DU N(IntKind.i64.wrap((i:Int)-c))else none).bind fun p=>(if p<24 then some(A.set p y)else none).bind fun B=>
   (if 0+N*1≤24 then DU N(IntKind.i64.wrap((i:Int)-d))else none).bind fun q=>(if q<24 then some(B.set q z)else none).bind K)=K(YR A o k):=by
 obtain⟨g1,g2⟩:=mA⟨k,hk⟩
 rw[inc32 x(by omega),hx,BF,BF,g1,g2,hc,hd,B1(by omega),B1(by omega),if_pos(by omega),if_pos(by omega),Co(by omega),Co(by omega)]
 simp only[Option.bind_some]
 rw[if_pos(by omega)]
 simp only[Option.bind_some]
 rw[if_pos(by omega)]
 rfl
def Wa(N a i u:Nat)(A:Ar UInt8 24):Prop:=i≤N∧u<10^i∧wO N a=wO i u++(A.l.take N).drop i
theorem setTwo{l:List UInt8}{N o:Nat}{x y:UInt8}(h:o+1<N)(hl:N≤l.length):(((l.set(o+1)y).set o x).take N).drop o=x::y::(l.take N).drop(o+2):=by
 apply List.ext_getElem?
 intro j
 rw[List.getElem?_drop,List.getElem?_take,List.getElem?_set,List.getElem?_set]
 match j with
 |0=>simp;omega
 |1=>simp;omega
 |j+2=>
  simp only[List.getElem?_cons_succ,List.getElem?_drop,List.getElem?_take]
  rw[if_neg(show¬o=o+(j+2)by omega),if_neg(show¬o+1=o+(j+2)by omega),show o+(j+2)=o+2+j by omega]
theorem Wa.two{N a i u o k:Nat}{A:Ar UInt8 24}(h:Wa N a i u A)(hN:N≤24)(ho:i=o+2)(hk:k=u%100):Wa N a o(u/100)(YR A o k):=by
 obtain⟨h1,h2,h3⟩:=h
 subst ho hk
 refine⟨by omega,?_,?_⟩
 ·rw[Nat.div_lt_iff_lt_mul(by decide)]
  rw[show 10^o*100=10^(o+2)by rw[Nat.pow_succ,Nat.pow_succ,Nat.mul_assoc]]
  exact h2
 ·have hs:((YR A o(u%100)).l.take N).drop o=UInt8.ofNat(48+u%100/10)::UInt8.ofNat(48+u%100%10)::(A.l.take N).drop(o+2):=setTwo(by omega)(by rw[A.len];exact hN)
  rw[hs,h3]
  simp only[wO,List.append_assoc,List.cons_append,List.nil_append]
  rw[show u/10/10=u/100 by omega,show u/10%10=u%100/10 by omega,show u%10=u%100%10 by omega]
theorem Wa.one{N a i u:Nat}{A:Ar UInt8 24}(h:Wa N a i u A)(hN:N≤24)(hi:i=1):Wa N a 0 0(A.set 0(UInt8.ofNat(48+u))):=by
 obtain⟨h1,h2,h3⟩:=h
 subst hi
 have hu:u<10:=by simpa using h2
 refine⟨by omega,by simp,?_⟩
 rw[h3]
 have:(A.set 0(UInt8.ofNat(48+u))).l=A.l.set 0(UInt8.ofNat(48+u)):=rfl
 rw[this]
 cases hA:A.l with
 |nil=>have:=A.len;rw[hA]at this;simp at this
 |cons y l=>
  match N,h1 with
  |N+1,_=>simp[wO,Nat.mod_eq_of_lt hu]
theorem shr64(x c:UInt64)(hc:c.toNat<64): ∃y:UInt64,(if(c.toNat:Int)<0 then none else some(BS(Int.fdiv(x.toNat:Int)(2^(min((c.toNat:Int).toNat)64)))))=some y∧y.toNat=x.toNat/2^c.toNat:=by
 refine⟨_,if_neg(by omega),?_⟩
 rw[Int.toNat_natCast,Nat.min_eq_left(by omega),show(2:Int)^c.toNat=((2^c.toNat:Nat):Int)by push_cast;rfl,←Int.ofNat_fdiv,Ke]
 exact Nat.lt_of_le_of_lt(Nat.div_le_self _ _)(by have:=x.toNat_lt;omega)
theorem bF{γ:Type}{x c b:UInt64}{n:Nat}{d e:Int}{K:UInt64×Int→Option γ}{r:Option γ}(hb:b.toNat=2^c.toNat)(hc:c.toNat<64)(hd:d=(n:Nat))(he:e=((n+c.toNat:Nat):Int))
  (hK: ∀(y:UInt64)(k:Nat),k≤c.toNat→y.toNat=x.toNat/2^k→(1≤x.toNat→1≤y.toNat)→(x.toNat<2^c.toNat*2^c.toNat→y.toNat<2^c.toNat)→K(y,((n+k:Nat):Int))=r):
  ((if(decide((b.toNat:Int)≤(x.toNat:Int)))=true then
   (if(c.toNat:Int)<0 then none else some(BS(Int.fdiv(x.toNat:Int)(2^(min((c.toNat:Int).toNat)64))))).bind fun z=>some(.inl(z,e))
   else some(.inl(x,d)):Option((UInt64×Int)⊕γ)).bind(Sum.elim K some))=r:=by
 by_cases h:b.toNat≤x.toNat
 ·rw[if_pos(by simpa using h)]
  obtain⟨y,e1,e2⟩:=shr64 x c hc
  rw[e1,he]
  refine hK y c.toNat(Nat.le_refl _)e2(fun _=> ?_)(fun h2=> ?_)
  ·rw[e2,Nat.le_div_iff_mul_le(Nat.pow_pos(by decide)),Nat.one_mul,←hb];exact h
  ·rw[e2];exact(Nat.div_lt_iff_lt_mul(Nat.pow_pos(by decide))).2 h2
 ·rw[if_neg(by simpa using h),hd]
  exact hK x 0(Nat.zero_le _)(by simp)id(fun _=>by omega)
def len8:AN:=[0,1,2,2,3,3,3,3,4,4,4,4,4,4,4,4,5,5,5,5,5,5,5,5,5,5,5,5,5,5,5,5]++List.replicate 32 6++List.replicate 64 7++List.replicate 128 8
theorem yP: ∀v:Fin 256,∃t,len8[v.1]? =some t∧(1≤v.1→v.1<2^t.toNat∧2^(t.toNat-1)≤v.1∧1≤t.toNat∧t.toNat≤8):=by
 have key: ∀v:Fin 256,(match len8[v.1]? with|some t=>decide(1≤v.1→v.1<2^t.toNat∧2^(t.toNat-1)≤v.1∧1≤t.toNat∧t.toNat≤8)|none=>false)=true:=by decide+kernel
 intro v
 have:=key v
 split at this
 ·rename_i t e;exact⟨t,e,of_decide_eq_true this⟩
 ·cases this
set_option maxRecDepth 20000 in
theorem tF(a:UInt64)(h:1≤a.toNat): ∃L:Nat,GH a=some(L:Int)∧1≤L∧L≤64∧a.toNat<2^L∧2^(L-1)≤a.toNat:=by
 have ha:=a.toNat_lt
 have key: ∀r,(∀L:Nat,1≤L→L≤64→a.toNat<2^L→2^(L-1)≤a.toNat→r=some(L:Int))→GH a=r:=by
  intro r hr
  unfold GH
  refine bF(n:=0)(c:=32)(b:=4294967296)rfl(by decide)rfl rfl fun y1 k1 g1 e1 p1 q1=> ?_
  refine bF(n:=0+k1)(c:=16)(b:=65536)rfl(by decide)rfl(by rw[show(16:UInt64).toNat=16 from rfl,show(32:UInt64).toNat=32 from rfl]at*;rw[Zw(by omega)(by omega)];push_cast;rfl)fun y2 k2 g2 e2 p2 q2=> ?_
  refine bF(n:=0+k1+k2)(c:=8)(b:=256)rfl(by decide)rfl(by rw[show(8:UInt64).toNat=8 from rfl,show(16:UInt64).toNat=16 from rfl,show(32:UInt64).toNat=32 from rfl]at*;rw[Zw(by omega)(by omega)];push_cast;rfl)fun y3 k3 g3 e3 p3 q3=> ?_
  rw[show(8:UInt64).toNat=8 from rfl]at g3 q3
  rw[show(16:UInt64).toNat=16 from rfl]at g2 q2
  rw[show(32:UInt64).toNat=32 from rfl]at g1 q1
  have b3:y3.toNat<2^8:=q3(q2(q1(by simpa using ha)))
  have hy3:1≤y3.toNat:=p3(p2(p1 h))
  have hv:y3.toNat=a.toNat/2^(k1+k2+k3):=by rw[e3,e2,e1,Nat.div_div_eq_div_mul,Nat.div_div_eq_div_mul,←Nat.pow_add,←Nat.pow_add,Nat.add_assoc]
  obtain⟨t,ht,h1⟩:=yP⟨y3.toNat,b3⟩
  dsimp only at ht h1
  obtain⟨h2,h3,h4,h5⟩:=h1 hy3
  have hu8:((QG(y3.toNat:Int)).toNat:Int)=(y3.toNat:Int):=by
   show((UInt8.ofNat((y3.toNat:Int)%256).toNat).toNat:Int)=_
   rw[show((y3.toNat:Int)%256).toNat=y3.toNat by omega,UInt8.toNat_ofNat']
   omega
  dsimp only
  rw[hu8]
  show(Fv len8(y3.toNat:Int)).bind _=r
  rw[BF,ht]
  simp only[Option.bind_some]
  rw[B1(by omega),Zw(by omega)(by omega),show((0+k1+k2+k3:Nat):Int)+(t.toNat:Int)=((k1+k2+k3+t.toNat:Nat):Int)by omega]
  rw[hv]at h2 h3
  refine(hr _(by omega)(by omega) ?_ ?_).symm
  ·rw[Nat.div_lt_iff_lt_mul(Nat.pow_pos(by decide)),←Nat.pow_add,Nat.add_comm]at h2
   exact h2
  ·rw[Nat.le_div_iff_mul_le(Nat.pow_pos(by decide)),←Nat.pow_add]at h3
   rw[show k1+k2+k3+t.toNat-1=t.toNat-1+(k1+k2+k3)by omega]
   exact h3
 have hex: ∃L:Nat,1≤L∧L≤64∧a.toNat<2^L∧2^(L-1)≤a.toNat:=by
  refine⟨a.toNat.log2+1,by omega,?_,Nat.lt_log2_self,Nat.log2_self_le(by omega)⟩
  have:=(Nat.log2_lt(by omega:a.toNat≠0)(k:=64)).2(by simpa using ha)
  omega
 obtain⟨L,l1,l2,l3,l4⟩:=hex
 refine⟨L,key _ fun M m1 m2 m3 m4=> ?_,l1,l2,l3,l4⟩
 have hLM: ∀{A B:Nat},a.toNat<2^A→2^(B-1)≤a.toNat→B≤A:=fun{A B}x y=>by
  have:2^(B-1)<2^A:=Nat.lt_of_le_of_lt y x
  have:=(Nat.pow_lt_pow_iff_right(by decide:1<2)).1 this
  omega
 have:L=M:=Nat.le_antisymm(hLM m3 l4)(hLM l3 m4)
 rw[this]
theorem log_get: ∀L:Fin 65,∃p:UInt64,nV.l[L.1*78913/262144]? =some p∧p.toNat=10^(L.1*78913/262144)∧(1≤L.1→2^L.1≤10^(L.1*78913/262144+1)∧10^(L.1*78913/262144-1)≤2^(L.1-1))∧L.1*78913/262144≤19:=by
 have key: ∀L:Fin 65,(match nV.l[L.1*78913/262144]? with|some p=>decide(p.toNat=10^(L.1*78913/262144)∧(1≤L.1→2^L.1≤10^(L.1*78913/262144+1)∧10^(L.1*78913/262144-1)≤2^(L.1-1))∧L.1*78913/262144≤19)|none=>false)=true:=by decide+kernel
 intro L
 have:=key L
 split at this
 ·rename_i p e;exact⟨p,e,of_decide_eq_true this⟩
 ·cases this
theorem YS(a:UInt64)(h:100≤a.toNat): ∃N:Nat,DA a=some((N+1:Nat):Int)∧N<20∧10^N≤a.toNat∧a.toNat<10^(N+1):=by
 obtain⟨L,e1,l1,l2,l3,l4⟩:=tF a(by omega)
 obtain⟨p,e2,e3,e4,e5⟩:=log_get⟨L,by omega⟩
 obtain⟨e4,e6⟩:=e4 l1
 dsimp only at e2 e3 e4 e5 e6
 have hl:DB(L:Int)=some((L*78913/262144:Nat):Int):=by
  unfold DB
  rw[if_neg(by decide),show((L:Int)*78913)=((L*78913:Nat):Int)by omega,B1(by omega),show((2:Int)^(min((18:UInt64).toNat:Int).toNat 64))=((262144:Nat):Int)by rfl,←Int.ofNat_fdiv]
  rfl
 generalize L*78913/262144=k at*
 unfold DA
 simp only[e1,hl,Option.bind_some,BF,e2,ET,e3]
 by_cases hp:10^k≤a.toNat
 ·rw[if_pos(decide_eq_true(Int.ofNat_le.2 hp))]
  refine⟨k,?_,by omega,hp,Nat.lt_of_lt_of_le l3 e4⟩
  simp only[Option.bind_some]
  rw[show((k:Nat):Int)+1=((k+1:Nat):Int)by omega,B1(by omega)]
 ·rw[if_neg(by rw[decide_eq_true_eq];exact fun h=>hp(Int.ofNat_le.1 h))]
  have hpos:1≤k:=by
   rcases Nat.eq_zero_or_pos k with h0|h0
   ·rw[h0]at hp;simp at hp;omega
   ·exact h0
  refine⟨k-1,?_,by omega,Nat.le_trans e6 l4,?_⟩
  ·simp only[Option.bind_some]
   rw[show((k:Nat):Int)+0=((k-1+1:Nat):Int)by omega,B1(by omega)]
  ·rw[show k-1+1=k by omega];omega
theorem AaB{n m:Nat}(h:m≤n):((T4 n none(some(m:Int))).map fun p=>p.2)=some m:=by
 simp[T4,h]
theorem rF{α β:Type}{x:Option α}{K:α→Option β}{r:Option β}(Q:α→Prop)(h: ∃b,x=some b∧Q b)(k: ∀b,Q b→K b=r):x.bind K=r:=by
 obtain⟨b,rfl,hb⟩:=h;exact k b hb
theorem eW{α β:Type}{x:Option α}{K:α→Option β}{Q:β→Prop}(R:α→Prop)(h: ∃b,x=some b∧R b)(k: ∀b,R b→ ∃c,K b=some c∧Q c): ∃c,x.bind K=some c∧Q c:=by
 obtain⟨b,rfl,hb⟩:=h;exact k b hb
theorem dN{σ β γ:Type}{F:σ→Option(σ⊕β)}{K:β→Option γ}{Q':γ→Prop}{s:σ}(m:σ→Nat)(I:σ→Prop)(Q:β→Prop)(h:I s)
  (step: ∀s,I s→(∃s',F s=some(.inl s')∧I s'∧m s'<m s)∨ ∃b,F s=some(.inr b)∧Q b)(fin: ∀b,Q b→ ∃c,K b=some c∧Q' c): ∃c,(iter F s).bind K=some c∧Q' c:=
 eW Q(N0 m I Q step h)fin
theorem Wa.end{N a u:Nat}{A:Ar UInt8 24}(h:Wa N a 0 u A):A.l.take N=wO N a:=by
 have:=h.2.2
 simp[wO]at this
 exact this.symm
theorem wL{i u:Nat}(h:u<10^i)(hi:i<9):u<4294967296:=Nat.lt_trans h(Nat.lt_of_le_of_lt(Nat.pow_le_pow_right(by decide)(show i≤8 by omega))(by decide))
set_option maxHeartbeats 4000000 in
set_option maxRecDepth 20000 in
theorem nW(a:UInt64)(h:100≤a.toNat):Ch a 10=some(Dz a.toNat):=by
 have halt:=a.toNat_lt
 obtain⟨M,e1,hM,l1,l2⟩:=YS a h
 have hM1:1≤M:=by
  rcases Nat.eq_zero_or_pos M with h0|h0
  ·subst h0;simp at l2;omega
  ·exact h0
 have hdig:Dz a.toNat=wO(M+1)a.toNat:=lF M 20 a.toNat(by omega)l2(.inr l1)
 generalize hN:M+1=N at*
 unfold Ch
 rw[if_pos(by decide)]
 dsimp only
 rw[if_neg(by rw[decide_eq_true_eq,show((100:UInt64).toNat:Int)=100 from rfl];omega),e1,Option.bind_some,AaB(by omega),Option.bind_some]
 have e100:(100:UInt32).toNat=100:=rfl
 have e10k:(10000:UInt32).toNat=10000:=rfl
 have e100m:(100000000:UInt64).toNat=100000000:=rfl
 refine rF(fun A:Ar UInt8 24=>A.l.take N=wO N a.toNat) ?_ fun A hA=>by
  rw[Option.bind_some]
  simp only[zN]
  rw[if_pos(by omega)]
  simp only[Option.bind_some,List.drop_zero,Fc,hA,hdig]
 refine dN(fun s=>s.2.1.toNat)(fun s:UInt64×Int×Ar UInt8 24=> ∃i:Nat,s.2.1=i∧Wa N a.toNat i s.1.toNat s.2.2)
  (fun r=> ∃(i:Nat)(u:UInt64)(A:Ar UInt8 24),r= .inl(u,(i:Int),A)∧i<8∧Wa N a.toNat i u.toNat A)⟨N,rfl,Nat.le_refl _,l2,by
   rw[List.drop_of_length_le(by rw[List.length_take];omega),List.append_nil]⟩ ?_ ?_
 ·rintro⟨u,s,A⟩⟨i,rfl,hd⟩
  dsimp only at hd ⊢
  have hiN:=hd.1
  by_cases hi:8≤i
  ·left
   rw[if_pos(by rw[decide_eq_true_eq];omega)]
   obtain⟨x13,f13,v13⟩:=mod64 u 100000000(by decide)
   obtain⟨x15,f15,v15⟩:=div64 u 100000000(by decide)
   rw[f13,f15,Option.bind_some,Option.bind_some]
   rw[e100m]at v13 v15
   have b13:x13.toNat<4294967296:=by omega
   have w13:=NI b13
   obtain⟨x16,f16,v16⟩:=aF(CB(x13.toNat:Int))10000(by decide)
   obtain⟨x17,f17,v17⟩:=ZO(CB(x13.toNat:Int))10000(by decide)
   rw[f16,f17,Option.bind_some,Option.bind_some]
   rw[w13,e10k,v13]at v16 v17
   obtain⟨x18,f18,v18⟩:=aF x17 100(by decide)
   obtain⟨x20,f20,v20⟩:=ZO x17 100(by decide)
   obtain⟨x22,f22,v22⟩:=aF x16 100(by decide)
   obtain⟨x24,f24,v24⟩:=ZO x16 100(by decide)
   rw[f18,f20,f22,f24,Option.bind_some,Option.bind_some,Option.bind_some,Option.bind_some]
   rw[e100,v17]at v18 v20
   rw[e100,v16]at v22 v24
   refine⟨(x15,((i-8:Nat):Int),YR(YR(YR(YR A(i-2)(u.toNat%100))(i-4)(u.toNat/100%100))(i-6)(u.toNat/100/100%100))(i-8)(u.toNat/100/100/100%100)),?_,⟨i-8,rfl,?_⟩,by dsimp only;omega⟩
   ·refine(NW(N:=N)(i:=i)(o:=i-2)(k:=u.toNat%100)(by omega)hiN(by rw[XP _(by omega)];omega)(by omega)(by omega)(by omega)(by omega)).trans ?_
    refine(NW(N:=N)(i:=i)(o:=i-4)(k:=u.toNat/100%100)(by omega)hiN(by rw[XP _(by omega)];omega)(by omega)(by omega)(by omega)(by omega)).trans ?_
    refine(NW(N:=N)(i:=i)(o:=i-6)(k:=u.toNat/100/100%100)(by omega)hiN(by rw[XP _(by omega)];omega)(by omega)(by omega)(by omega)(by omega)).trans ?_
    refine(NW(N:=N)(i:=i)(o:=i-8)(k:=u.toNat/100/100/100%100)(by omega)hiN(by rw[XP _(by omega)];omega)(by omega)(by omega)(by omega)(by omega)).trans ?_
    rw[show((i:Nat):Int)-8=((i-8:Nat):Int)by omega,B1(by omega)]
   ·rw[show x15.toNat=u.toNat/100/100/100/100 by omega]
    exact(((hd.two(by omega)(by omega)rfl).two(i:=i-2)(o:=i-4)(by omega)(by omega)rfl).two(i:=i-4)(o:=i-6)(by omega)(by omega)rfl).two(i:=i-6)(o:=i-8)(by omega)(by omega)rfl
  ·right
   rw[if_neg(by rw[decide_eq_true_eq];omega)]
   exact⟨_,rfl,i,u,A,rfl,by omega,hd⟩
 ·rintro _⟨i,u,A,rfl,hi,hd⟩
  have hiN:=hd.1
  have hu32:=wL hd.2.1(by omega)
  have wu:=NI hu32
  refine eW(fun r=> ∃(i:Nat)(w:UInt32)(A:Ar UInt8 24),r= .inl((i:Int),w,A)∧i<4∧Wa N a.toNat i w.toNat A) ?_ ?_
  ·dsimp only
   by_cases h4:4≤i
   ·rw[if_pos(by rw[decide_eq_true_eq];omega)]
    obtain⟨x88,f88,v88⟩:=ZO(CB(u.toNat:Int))10000(by decide)
    obtain⟨x89,f89,v89⟩:=aF(CB(u.toNat:Int))10000(by decide)
    rw[f88,f89,Option.bind_some,Option.bind_some]
    rw[wu,e10k]at v88 v89
    obtain⟨x90,f90,v90⟩:=aF x88 100(by decide)
    obtain⟨x92,f92,v92⟩:=ZO x88 100(by decide)
    rw[f90,f92,Option.bind_some,Option.bind_some]
    rw[e100,v88]at v90 v92
    refine⟨.inl(((i-4:Nat):Int),x89,YR(YR A(i-2)(u.toNat%100))(i-4)(u.toNat/100%100)),?_,i-4,_,_,rfl,by omega,?_⟩
    ·refine(NW(N:=N)(i:=i)(o:=i-2)(k:=u.toNat%100)(by omega)hiN(by rw[XP _(by omega)];omega)(by omega)(by omega)(by omega)(by omega)).trans ?_
     refine(NW(N:=N)(i:=i)(o:=i-4)(k:=u.toNat/100%100)(by omega)hiN(by rw[XP _(by omega)];omega)(by omega)(by omega)(by omega)(by omega)).trans ?_
     rw[show((i:Nat):Int)-4=((i-4:Nat):Int)by omega,B1(by omega)]
    ·rw[show x89.toNat=u.toNat/100/100 by omega]
     exact(hd.two(by omega)(by omega)rfl).two(i:=i-2)(o:=i-4)(by omega)(by omega)rfl
   ·rw[if_neg(by rw[decide_eq_true_eq];omega)]
    exact⟨_,rfl,i,_,A,rfl,by omega,by rw[wu];exact hd⟩
  ·rintro _⟨i,w,A,rfl,hi,hd⟩
   have hiN:=hd.1
   refine eW(fun r=> ∃(i:Nat)(w:UInt32)(A:Ar UInt8 24),r= .inl((i:Int),w,A)∧i<2∧Wa N a.toNat i w.toNat A) ?_ ?_
   ·dsimp only
    by_cases h2:2≤i
    ·rw[if_pos(by rw[decide_eq_true_eq];omega)]
     obtain⟨x75,f75,v75⟩:=ZO w 100(by decide)
     obtain⟨x77,f77,v77⟩:=aF w 100(by decide)
     rw[f75,f77,Option.bind_some,Option.bind_some]
     rw[e100]at v75 v77
     refine⟨.inl(((i-2:Nat):Int),x77,YR A(i-2)(w.toNat%100)),?_,i-2,_,_,rfl,by omega,?_⟩
     ·refine(NW(N:=N)(i:=i)(o:=i-2)(k:=w.toNat%100)(by omega)hiN(by rw[XP _(by omega)];omega)(by omega)(by omega)(by omega)(by omega)).trans ?_
      rw[show((i:Nat):Int)-2=((i-2:Nat):Int)by omega,B1(by omega)]
     ·rw[v77]
      exact hd.two(by omega)(by omega)rfl
    ·rw[if_neg(by rw[decide_eq_true_eq];omega)]
     exact⟨_,rfl,i,_,A,rfl,by omega,hd⟩
   ·rintro _⟨i,w,A,rfl,hi,hd⟩
    have hiN:=hd.1
    dsimp only[Sum.elim_inl]
    by_cases h1:0<i
    ·have hi1:i=1:=by omega
     subst hi1
     have hw:w.toNat<10:=by simpa using hd.2.1
     rw[if_pos(by rw[decide_eq_true_eq];omega),if_pos(by omega),show(0:Int)=((0:Nat):Int)from rfl,Co(by omega),Option.bind_some,if_pos(by omega),Option.bind_some]
     refine⟨_,rfl,?_⟩
     have hb:QG((CB(((48:UInt32).toNat:Int)+(w.toNat:Int))).toNat:Int)=UInt8.ofNat(48+w.toNat):=by
      rw[show(((48:UInt32).toNat:Int)+(w.toNat:Int))=((48+w.toNat:Nat):Int)by rw[show((48:UInt32).toNat:Int)=48 from rfl];omega,NI(by omega)]
      exact u8_of(by omega)
     rw[hb]
     exact(hd.one(by omega)rfl).end
    ·obtain rfl:i=0:=by omega
     rw[if_neg(by rw[decide_eq_true_eq];omega)]
     exact⟨_,rfl,hd.end⟩
theorem rW: ∀n:Fin 100,G0(n.1:Int)=some(Dz n.1):=by decide+kernel
theorem Ju(a:UInt64):DE a=some(Dz a.toNat):=by
 have:Ch a 10=some(Dz a.toNat):=by
  by_cases h:100≤a.toNat
  ·exact nW a h
  ·unfold Ch
   rw[if_pos(by decide)]
   dsimp only
   rw[if_pos(by rw[decide_eq_true_eq,show((100:UInt64).toNat:Int)=100 from rfl];omega),B1(by omega),rW⟨a.toNat,by omega⟩]
   rfl
 unfold DE I7
 rw[this];rfl
end Go.Proofs.YtobejhpigbllpaaGreatDoor.Am
namespace Go.Proofs.YtobejhpigbllpaaGreatDoor.Am
def E2(sep:AN):List AN→AN
 |[]=>[]
 |[x]=>x
 |x::y::r=>x++sep++E2 sep(y::r)
theorem Oi(sep:AN): ∀(l:List AN)(x:AN),l≠[]→E2 sep(l++[x])=E2 sep l++sep++x
 |[],_,h=>absurd rfl h
 |[y],x,_=>rfl
 |y::z::r,x,_=>by
  have:=Oi sep(z::r)x(by simp)
  simp only[List.cons_append,E2]at this ⊢
  rw[this];simp
def Rp(l:List AN):Nat:=(l.map List.length).sum
theorem Z2{l:List AN}{i:Nat}(h:i<l.length):Rp(l.take(i+1))=Rp(l.take i)+l[i].length:=by
 unfold Rp;rw[List.take_succ_eq_append_getElem h,List.map_append,List.sum_append,List.map_singleton,List.sum_singleton]
theorem L7(sep:AN): ∀l:List AN,(E2 sep l).length=sep.length*(l.length-1)+Rp l
 |[]=>by simp[E2,Rp]
 |[x]=>by simp[E2,Rp]
 |x::y::r=>by
  have:=L7 sep(y::r)
  simp only[E2,List.length_append,this,Rp,List.map_cons,List.sum_cons,List.length_cons,Nat.add_sub_cancel,Nat.mul_add,Nat.mul_one]
  omega
theorem T6(l:List AN)(i:Nat):Rp(l.take i)≤Rp l:=by
 conv=>rhs;rw[←List.take_append_drop i l]
 unfold Rp;rw[List.map_append,List.sum_append];omega
theorem Xw(sep:AN)(l:List AN)(i:Nat):(E2 sep(l.take i)).length≤(E2 sep l).length:=by
 rw[L7,L7]
 have h1:=T6 l i
 have h2:sep.length*((l.take i).length-1)≤sep.length*(l.length-1):=Nat.mul_le_mul_left _(by rw[List.length_take];omega)
 omega
theorem jI(g:GS AN)(sep:AN)(hl:g.l.length<1000000)(hs:sep.length<1000)(h:(E2 sep g.l).length<1000000000):Ji g sep=some(E2 sep g.l):=by
 unfold Ji
 have hjl:=L7 sep g.l
 by_cases h0:g.l.length=0
 ·rw[if_pos(by rw[decide_eq_true_eq,h0];rfl),List.eq_nil_of_length_eq_zero h0];rfl
 rw[if_neg(by rw[decide_eq_true_eq];omega)]
 by_cases h1:g.l.length=1
 ·rw[if_pos(by rw[decide_eq_true_eq,h1];rfl)]
  obtain⟨x,hx⟩:=List.length_eq_one_iff.1 h1
  rw[hx];rfl
 rw[if_neg(by rw[decide_eq_true_eq];omega)]
 have hw:IntKind.i64.wrap((g.l.length:Int)-1)=((g.l.length-1:Nat):Int):=by
  rw[show(g.l.length:Int)-1=((g.l.length-1:Nat):Int)by omega,B1(by omega)]
 have hprod:sep.length*(g.l.length-1)<1000000000:=by omega
 refine rF(fun r=>r= .inl((sep.length*(g.l.length-1):Nat):Int)) ?_ ?_
 ·by_cases hs0:0<sep.length
  ·rw[if_pos(by rw[decide_eq_true_eq];omega)]
   simp only[hw]
   rw[if_neg(by omega)]
   have hq:IntKind.i64.wrap(Int.tdiv 9223372036854775807((g.l.length-1:Nat):Int))=((9223372036854775807/(g.l.length-1):Nat):Int):=by
    rw[show(9223372036854775807:Int)=((9223372036854775807:Nat):Int)from rfl,←Int.ofNat_tdiv,B1(Nat.lt_of_le_of_lt(Nat.div_le_self _ _)(by decide))]
   rw[hq,Option.bind_some,if_neg(by
    rw[decide_eq_true_eq,Int.ofNat_le]
    have:1000000≤9223372036854775807/(g.l.length-1):=(Nat.le_div_iff_mul_le(by omega)).2(by omega)
    omega)]
   have e1:IntKind.i64.wrap((sep.length:Int)*((g.l.length-1:Nat):Int))=((sep.length*(g.l.length-1):Nat):Int):=by
    rw[←Int.natCast_mul,B1(by omega)]
   rw[e1,Int.zero_add,B1(by omega)]
   exact⟨_,rfl,rfl⟩
  ·rw[if_neg(by rw[decide_eq_true_eq];omega)]
   have:sep.length=0:=by omega
   exact⟨_,rfl,by rw[this,Nat.zero_mul];rfl⟩
 ·rintro _ rfl
  dsimp only[Sum.elim_inl]
  refine Cg(fun s=>g.l.length-s.2.toNat)(fun s=> ∃i:Nat,s.2=i∧i≤g.l.length∧s.1=((sep.length*(g.l.length-1)+Rp(g.l.take i):Nat):Int))(fun r=>r= .inl((E2 sep g.l).length:Int))⟨0,rfl,by omega,by simp[Rp]⟩ ?_ ?_
  ·rintro⟨n,s⟩⟨i,rfl,hi,rfl⟩
   dsimp only
   have hm:=T6 g.l i
   by_cases hlt:i<g.l.length
   ·left
    have hm1:=T6 g.l(i+1)
    rw[Z2 hlt]at hm1
    rw[if_pos(by rw[decide_eq_true_eq];omega),BF,List.getElem?_eq_getElem hlt,Option.bind_some]
    rw[if_neg(by rw[decide_eq_true_eq,Zw(by omega)(by omega)];omega)]
    refine⟨_,rfl,⟨i+1,?_,by omega,?_⟩,?_⟩
    ·dsimp only;rw[show(i:Int)+1=((i+1:Nat):Int)by omega,B1(by omega)]
    ·dsimp only
     rw[Z2 hlt,←Int.natCast_add,B1(by omega),Nat.add_assoc]
    ·dsimp only;rw[show(i:Int)+1=((i+1:Nat):Int)by omega,B1(by omega)];omega
   ·right
    rw[if_neg(by rw[decide_eq_true_eq];omega)]
    exact⟨_,rfl,by rw[List.take_of_length_le(by omega),hjl]⟩
  ·rintro _ rfl
   dsimp only[Sum.elim_inl]
   have hg1:jO []((E2 sep g.l).length:Int)=some []:=by
    unfold jO;rw[if_pos⟨rfl,by omega,by unfold Bf;omega⟩]
   cases hgl:g with
   |nil=>rw[hgl]at h0;simp at h0
   |mk l=>
    subst hgl
    simp only[Fc]at*
    cases l with
    |nil=>simp at h0
    |cons x r=>
     have hx:x.length≤(E2 sep(x::r)).length:=by
      have:=Xw sep(x::r)1
      simpa [E2]using this
     rw[hg1,Option.bind_some,show(0:Int)=((0:Nat):Int)from rfl,BF]
     simp only[List.getElem?_cons_zero,Option.bind_some]
     have hb:Ma []x=some x:=by unfold Ma;rw[if_pos(by simp;unfold Bf;omega)];rfl
     obtain⟨g2,hsl,hg2⟩: ∃g2:GS AN,slG(.mk(x::r))(some 1)none=some g2∧g2.l=r:=⟨.mk r,vL(n:=1)(by simp),rfl⟩
     subst hg2
     rw[hb,Option.bind_some,hsl,Option.bind_some]
     refine Cg(fun s=>g2.l.length-s.1.toNat)(fun s=> ∃i:Nat,s.1=i∧i≤g2.l.length∧s.2=E2 sep((x::g2.l).take(i+1)))(fun b=>b= .inl(E2 sep(x::g2.l)))⟨0,rfl,by omega,rfl⟩ ?_ ?_
     ·rintro⟨s,t⟩⟨i,rfl,hi,rfl⟩
      dsimp only
      by_cases hlt:i<g2.l.length
      ·left
       have hj2:=Xw sep(x::g2.l)(i+1+1)
       have hsn:E2 sep((x::g2.l).take(i+1+1))=E2 sep((x::g2.l).take(i+1))++sep++g2.l[i]:=by
        rw[List.take_succ_eq_append_getElem(show i+1<(x::g2.l).length by simpa using hlt),Oi sep _ _(by simp)]
        rfl
       have hj3:=hj2
       rw[hsn,List.length_append,List.length_append]at hj3
       rw[if_pos(by rw[decide_eq_true_eq];omega),BF,List.getElem?_eq_getElem hlt,Option.bind_some]
       have b1:Ma(E2 sep((x::g2.l).take(i+1)))sep=some(E2 sep((x::g2.l).take(i+1))++sep):=by unfold Ma;rw[if_pos(by unfold Bf;omega)]
       have b2:Ma(E2 sep((x::g2.l).take(i+1))++sep)g2.l[i]=some(E2 sep((x::g2.l).take(i+1))++sep++g2.l[i]):=by unfold Ma;rw[if_pos(by rw[List.length_append];unfold Bf;omega)]
       rw[b1,Option.bind_some,b2,Option.bind_some]
       refine⟨_,rfl,⟨i+1,?_,by omega,hsn.symm⟩,?_⟩
       ·dsimp only;rw[show(i:Int)+1=((i+1:Nat):Int)by omega,B1(by simp at hl;omega)]
       ·dsimp only;rw[show(i:Int)+1=((i+1:Nat):Int)by omega,B1(by simp at hl;omega)];omega
      ·right
       rw[if_neg(by rw[decide_eq_true_eq];omega)]
       exact⟨_,rfl,by rw[List.take_of_length_le(by simp;omega)]⟩
     ·rintro _ rfl
      dsimp only[Sum.elim_inl]
      have hT:eV(decide(0<((E2 sep(x::g2.l)).length:Int)))(E2 sep(x::g2.l))=some(E2 sep(x::g2.l)):=by
       unfold eV
       refine if_pos⟨by unfold Bf;omega,fun hp h0=> ?_⟩
       rw[decide_eq_true_eq,h0]at hp
       simp at hp
      exact congrArg(fun x:Option AN=>x.bind fun y=>some y)hT
def hd(k:Nat):UInt8:=if k<10 then UInt8.ofNat(48+k)else UInt8.ofNat(87+k)
def hexB(b:UInt8):AN:=[hd(b.toNat/16),hd(b.toNat%16)]
def JT(l:List UInt8):AN:=l.flatMap hexB
theorem SL(l:List UInt8):(JT l).length=2*l.length:=by
 induction l with
 |nil=>rfl
 |cons b l ih=>simp only[JT,List.flatMap_cons,List.length_append,List.length_cons]at ih ⊢;rw[ih];simp[hexB];omega
theorem ZT{l:List UInt8}{i:Nat}(h:i<l.length):JT(l.take(i+1))=JT(l.take i)++[hd(l[i].toNat/16)]++[hd(l[i].toNat%16)]:=by
 rw[List.take_succ_eq_append_getElem h];simp only[JT,List.flatMap_append,List.flatMap_cons,List.flatMap_nil,hexB,List.append_nil,List.append_assoc];rfl
def hdigs:AN:=[48,49,50,51,52,53,54,55,56,57,97,98,99,100,101,102]
theorem Uk: ∀k:Fin 16,hdigs[k.1]? =some(hd k.1):=by decide+kernel
theorem hi_val: ∀b:Fin 256,(if((4:UInt64).toNat:Int)<0 then none else some(QG(Int.fdiv((UInt8.ofNat b.1).toNat:Int)(2^(min((4:UInt64).toNat:Int).toNat 8)))))=some(UInt8.ofNat(b.1/16)):=by decide+kernel
theorem lo_val: ∀b:Fin 256,QG(JG .and .u8((UInt8.ofNat b.1).toNat:Int)((15:UInt8).toNat:Int))=UInt8.ofNat(b.1%16):=by decide+kernel
theorem nat8{k:Nat}(h:k<256):(UInt8.ofNat k).toNat=k:=by rw[UInt8.toNat_ofNat'];omega
theorem dQ(g:GS UInt8)(h:g.l.length<1000000):H8 g=some(JT g.l):=by
 unfold H8
 refine Cg(fun s=>g.l.length-s.1.toNat)(fun s=> ∃i:Nat,s.1=i∧i≤g.l.length∧s.2=JT(g.l.take i))(fun b=>b= .inl(JT g.l))⟨0,rfl,by omega,rfl⟩ ?_ ?_
 ·rintro⟨s,t⟩⟨i,rfl,hi,rfl⟩
  dsimp only
  have hlen:=SL(g.l.take i)
  rw[List.length_take]at hlen
  by_cases hlt:i<g.l.length
  ·left
   rw[if_pos(by rw[decide_eq_true_eq];omega),BF,List.getElem?_eq_getElem hlt,Option.bind_some]
   have hb:=g.l[i].toNat_lt
   have e1:=hi_val⟨g.l[i].toNat,hb⟩
   have e2:=lo_val⟨g.l[i].toNat,hb⟩
   simp only[PC]at e1 e2
   rw[e1,Option.bind_some]
   rw[e2,nat8(by omega),nat8(by omega),BF,BF]
   have d1:=Uk⟨g.l[i].toNat/16,by omega⟩
   have d2:=Uk⟨g.l[i].toNat%16,by omega⟩
   have b1:Ma(JT(g.l.take i)) [hd(g.l[i].toNat/16)]=some(JT(g.l.take i)++[hd(g.l[i].toNat/16)]):=by unfold Ma;rw[if_pos(by simp;unfold Bf;omega)]
   have b2:Ma(JT(g.l.take i)++[hd(g.l[i].toNat/16)]) [hd(g.l[i].toNat%16)]=some(JT(g.l.take i)++[hd(g.l[i].toNat/16)]++[hd(g.l[i].toNat%16)]):=by unfold Ma;rw[if_pos(by simp;unfold Bf;omega)]
   refine⟨(((i+1:Nat):Int),JT(g.l.take(i+1))),?_,⟨i+1,rfl,by omega,rfl⟩,by dsimp only;omega⟩
   refine(congrArg(fun x:Option UInt8=>x.bind _)d1).trans ?_
   rw[Option.bind_some,b1,Option.bind_some]
   refine(congrArg(fun x:Option UInt8=>x.bind _)d2).trans ?_
   rw[Option.bind_some,b2,Option.bind_some,ZT hlt,show(i:Int)+1=((i+1:Nat):Int)by omega,B1(by omega)]
  ·right
   rw[if_neg(by rw[decide_eq_true_eq];omega)]
   exact⟨_,rfl,by rw[List.take_of_length_le(by omega)]⟩
 ·rintro _ rfl
  dsimp only[Sum.elim_inl]
  unfold eV
  rw[if_pos⟨by rw[SL];unfold Bf;omega,fun h=>by cases h⟩]
  rfl
theorem yT(K:Ar UInt8 32):Nw K=some(JT K.l):=by
 unfold Nw
 rw[if_pos(by decide),List.drop_zero,List.take_of_length_le(by rw[K.len];exact Nat.le_refl _),dQ _(by simp[K.len])]
 rfl
theorem Kh: ∀k:Fin 16,L3(k.1:Int)=some [hd k.1]:=by decide+kernel
theorem mI(g:GS UInt8)(h:g.l.length<1000000):LJ g=some(JT g.l):=by
 unfold LJ
 refine Cg(fun s=>g.l.length-s.2.toNat)(fun s=> ∃i:Nat,s.2=i∧i≤g.l.length∧s.1=JT(g.l.take i))(fun b=>b= .inl(JT g.l))⟨0,rfl,by omega,rfl⟩ ?_ ?_
 ·rintro⟨t,s⟩⟨i,rfl,hi,rfl⟩
  dsimp only
  have hlen:=SL(g.l.take i)
  rw[List.length_take]at hlen
  by_cases hlt:i<g.l.length
  ·left
   have hb:=g.l[i].toNat_lt
   have q1:IntKind.i64.wrap(Int.tdiv(g.l[i].toNat:Int)16)=((g.l[i].toNat/16:Nat):Int):=by
    rw[show(16:Int)=((16:Nat):Int)from rfl,←Int.ofNat_tdiv,B1(by omega)]
   have q2:Int.tmod(g.l[i].toNat:Int)16=((g.l[i].toNat%16:Nat):Int):=by
    rw[show(16:Int)=((16:Nat):Int)from rfl,←Int.ofNat_tmod]
   have d1:=Kh⟨g.l[i].toNat/16,by omega⟩
   have d2:=Kh⟨g.l[i].toNat%16,by omega⟩
   dsimp only at d1 d2
   rw[if_pos(by rw[decide_eq_true_eq];omega),BF,List.getElem?_eq_getElem hlt,Option.bind_some,B1(by omega),if_neg(by decide),Option.bind_some,q1,d1,Option.bind_some,if_pos(by simp;unfold Bf;omega),Option.bind_some,Option.bind_some,B1(by omega),if_neg(by decide),Option.bind_some,q2,d2,Option.bind_some,if_pos(by simp;unfold Bf;omega),Option.bind_some]
   refine⟨_,rfl,⟨i+1,?_,by omega,(ZT hlt).symm⟩,?_⟩
   ·dsimp only;rw[show(i:Int)+1=((i+1:Nat):Int)by omega,B1(by omega)]
   ·dsimp only;rw[show(i:Int)+1=((i+1:Nat):Int)by omega,B1(by omega)];omega
  ·right
   rw[if_neg(by rw[decide_eq_true_eq];omega)]
   exact⟨_,rfl,by rw[List.take_of_length_le(by omega)]⟩
 ·rintro _ rfl;rfl
theorem sI(K:Ar UInt8 32):Nq K=some(.mk K.l):=by
 unfold Nq
 have hK:=K.len
 refine Cg(fun s=>32-s.1.toNat)(fun s=> ∃i:Nat,s.1=i∧i≤32∧s.2=ZW(K.l.take i))(fun b=>b= .inl(.mk K.l))⟨0,rfl,by omega,rfl⟩ ?_ ?_
 ·rintro⟨s,t⟩⟨i,rfl,hi,rfl⟩
  dsimp only
  by_cases hlt:i<32
  ·left
   have hl:i<K.l.length:=by omega
   rw[if_pos(by rw[decide_eq_true_eq];omega),Co hlt,Option.bind_some,List.getElem?_eq_getElem hl,Option.bind_some,Kt(by rw[Rg,List.length_take];unfold Bf;omega),Option.bind_some]
   refine⟨_,rfl,⟨i+1,?_,by omega,?_⟩,?_⟩
   ·dsimp only;rw[show(i:Int)+1=((i+1:Nat):Int)by omega,B1(by omega)]
   ·dsimp only;rw[Rg,List.take_succ_eq_append_getElem hl,PM]
   ·dsimp only;rw[show(i:Int)+1=((i+1:Nat):Int)by omega,B1(by omega)];omega
  ·right
   rw[if_neg(by rw[decide_eq_true_eq];omega)]
   refine⟨_,rfl,?_⟩
   rw[List.take_of_length_le(by omega)]
   cases hKl:K.l with
   |nil=>rw[hKl]at hK;simp at hK
   |cons x l=>rfl
 ·rintro _ rfl;rfl
end Go.Proofs.YtobejhpigbllpaaGreatDoor.Am
namespace Go.Proofs.YtobejhpigbllpaaGreatDoor.Am
def QZ(l:List UInt8):AN:=E2 [46](l.map fun b=>Dz b.toNat)
theorem Wz{l:List AN}{n:Nat}(h: ∀x∈l,x.length≤n):Rp l≤l.length*n:=by
 induction l with
 |nil=>simp[Rp]
 |cons x l ih=>
  have h1:=h x(by simp)
  have h2:=ih fun y hy=>h y(by simp[hy])
  simp only[Rp,List.map_cons,List.sum_cons,List.length_cons,Nat.add_mul,Nat.one_mul]at h2 ⊢
  omega
theorem TS(l:List UInt8):(QZ l).length≤21*l.length:=by
 unfold QZ
 rw[L7]
 have:=Wz(l:=l.map fun b=>Dz b.toNat)(n:=20)(fun x hx=>by obtain⟨b,_,rfl⟩:=List.mem_map.1 hx;exact Hr _)
 simp at this ⊢
 omega
theorem dec8(b:UInt8):DE(BS(b.toNat:Int))=some(Dz b.toNat):=by
 rw[Ju,Ke(by have:=b.toNat_lt;omega)]
theorem r03_8(b:UInt8):FT(BS(b.toNat:Int))=some(Dz b.toNat):=by
 rw[S5,Ke(by have:=b.toNat_lt;omega)]
theorem cK{α:Type}{l d:List α}{x:α}{i:Nat}(h:i<l.length)(hd:l.take i=d):(l.set i x).take(i+1)=d++[x]:=by
 rw[List.take_succ_eq_append_getElem(by rw[List.length_set];exact h),List.getElem_set_self,List.take_set_of_le(Nat.le_refl _),hd]
theorem sK(B:Ar UInt8 4):Qn B=some(QZ B.l):=by
 have hB:=B.len
 unfold Qn
 refine Cg(fun s=>4-s.1.toNat)(fun s=> ∃i:Nat,s.1=i∧i≤4∧s.2.l.take i=(B.l.take i).map fun b=>Dz b.toNat)(fun r=> ∃A:Ar AN 4,r= .inl A∧A.l=B.l.map fun b=>Dz b.toNat)⟨0,rfl,by omega,rfl⟩ ?_ ?_
 ·rintro⟨s,A⟩⟨i,rfl,hi,hA⟩
  dsimp only at hA ⊢
  by_cases hlt:i<4
  ·left
   rw[if_pos(by rw[decide_eq_true_eq];omega),BF,List.getElem?_eq_getElem(show i<B.l.length by omega),Option.bind_some,dec8,Option.bind_some,Co hlt,Option.bind_some,if_pos hlt,Option.bind_some]
   refine⟨_,rfl,⟨i+1,?_,by omega,?_⟩,?_⟩
   ·dsimp only;rw[show(i:Int)+1=((i+1:Nat):Int)by omega,B1(by omega)]
   ·dsimp only
    rw[List.take_succ_eq_append_getElem(show i<B.l.length by omega),List.map_append]
    exact cK(by rw[A.len];exact hlt)hA
   ·dsimp only;rw[show(i:Int)+1=((i+1:Nat):Int)by omega,B1(by omega)];omega
  ·right
   rw[if_neg(by rw[decide_eq_true_eq];omega)]
   refine⟨_,rfl,A,rfl,?_⟩
   rw[List.take_of_length_le(by rw[A.len];omega),List.take_of_length_le(by omega)]at hA
   exact hA
 ·rintro _⟨A,rfl,hA⟩
  dsimp only[Sum.elim_inl]
  have hl:=TS B.l
  have hlt:(QZ B.l).length<1000000000:=by omega
  have hj:=jI(.mk A.l) [46](by simp[A.len])(by decide)(by show(E2 [46]A.l).length<1000000000;rw[hA];exact hlt)
  rw[if_pos(by decide),List.drop_zero,List.take_of_length_le(by rw[A.len];exact Nat.le_refl _),hj,Fc,hA]
  rfl
theorem wK(B:Ar UInt8 4):S4 B=some(QZ B.l):=by
 have hB:=B.len
 unfold S4
 have h0:0<B.l.length:=by omega
 rw[show(0:Int)=((0:Nat):Int)from rfl,Co(by decide),Option.bind_some,List.getElem?_eq_getElem h0,Option.bind_some,r03_8,Option.bind_some]
 refine Cg(fun s=>4-s.2.toNat)(fun s=> ∃i:Nat,s.2=((i+1:Nat):Int)∧i+1≤4∧s.1=QZ(B.l.take(i+1)))(fun r=>r= .inl(QZ B.l))⟨0,rfl,by omega,by
  rw[List.take_succ_eq_append_getElem h0];rfl⟩ ?_ ?_
 ·rintro⟨t,s⟩⟨i,rfl,hi,rfl⟩
  dsimp only
  have hl:=TS(B.l.take(i+1))
  rw[List.length_take]at hl
  by_cases hlt:i+1<4
  ·left
   have hd:=Hr(B.l[i+1]'(by omega)).toNat
   rw[if_pos(by rw[decide_eq_true_eq];omega),if_pos(by simp;unfold Bf;omega),Option.bind_some,Co hlt,Option.bind_some,List.getElem?_eq_getElem(show i+1<B.l.length by omega),Option.bind_some,r03_8,Option.bind_some,if_pos(by simp;unfold Bf;omega),Option.bind_some]
   refine⟨_,rfl,⟨i+1,?_,by omega,?_⟩,?_⟩
   ·dsimp only;rw[show((i+1:Nat):Int)+1=((i+1+1:Nat):Int)by omega,B1(by omega)]
   ·dsimp only
    unfold QZ
    rw[List.take_succ_eq_append_getElem(show i+1<B.l.length by omega),List.map_append,List.map_singleton,Oi _ _ _(by simp;intro h;rw[h]at hB;simp at hB)]
   ·dsimp only;rw[show((i+1:Nat):Int)+1=((i+1+1:Nat):Int)by omega,B1(by omega)];omega
  ·right
   rw[if_neg(by rw[decide_eq_true_eq];omega)]
   exact⟨_,rfl,by rw[List.take_of_length_le(by omega)]⟩
 ·rintro _ rfl;rfl
def SO:Nat→Nat→AN
 |0,_=>[]
 |k+1,n=>if n<16 then [hd n]else SO k(n/16)++[hd(n%16)]
def OW(n:Nat):AN:=SO 5 n
theorem ZU: ∀(k n:Nat),n<16^(k+1)→SO(k+2)n=SO(k+1)n
 |0,n,h=>by
  have h:n<16:=by simpa using h
  simp[SO,h]
 |k+1,n,h=>by
  by_cases hn:n<16
  ·simp[SO,hn]
  ·have hd:n/16<16^(k+1):=by
    rw[Nat.div_lt_iff_lt_mul(by decide),←Nat.pow_succ];exact h
   have ih:=ZU k(n/16)hd
   rw[SO,if_neg hn,ih]
   conv=>rhs;rw[SO,if_neg hn]
theorem dU{n:Nat}(h:n<65536):OW n=if n<16 then [hd n]else OW(n/16)++[hd(n%16)]:=by
 unfold OW
 rw[ZU 3(n/16)(by omega)]
 rfl
theorem jN: ∀(k n:Nat),(SO k n).length≤k
 |0,_=>by simp[SO]
 |k+1,n=>by
  rw[SO]
  split
  ·simp
  ·simp[jN k]
theorem SN(n:Nat):(OW n).length≤5:=jN 5 n
theorem bE{m:Nat}(h:m<65536):(Xe(m:Int)).toNat=m:=by
 show(UInt16.ofNat((m:Int)%65536).toNat).toNat=m
 rw[show((m:Int)%65536).toNat=m by omega]
 simp[UInt16.toNat_ofNat,h]
theorem and15{x:Nat}(h:x<65536):JG .and .u16(x:Int)((15:UInt16).toNat:Int)=((x%16:Nat):Int):=by
 have h1:(BitVec.ofInt 16(x:Int)&&&BitVec.ofInt 16((15:UInt16).toNat:Int)).toNat=x%16:=by
  rw[BitVec.toNat_and]
  have e1:(BitVec.ofInt 16(x:Int)).toNat=x:=by
   rw[BitVec.toNat_ofInt];omega
  have e2:(BitVec.ofInt 16((15:UInt16).toNat:Int)).toNat=2^4-1:=by decide
  rw[e1,e2,Nat.and_two_pow_sub_one_eq_mod]
 unfold JG
 show((BitVec.ofInt 16(x:Int)&&&BitVec.ofInt 16((15:UInt16).toNat:Int)).toNat:Int)=_
 rw[h1]
theorem enc_hd: ∀k:Fin 16,uG((hd k.1).toNat:Int)=[hd k.1]:=by decide+kernel
theorem shr16(x:UInt16): ∃y:UInt16,(if((4:UInt64).toNat:Int)<0 then none else some(Xe(Int.fdiv(x.toNat:Int)(2^(min((4:UInt64).toNat:Int).toNat 16)))))=some y∧y.toNat=x.toNat/16:=by
 refine⟨_,if_neg(by decide),?_⟩
 rw[show((2:Int)^(min((4:UInt64).toNat:Int).toNat 16))=((16:Nat):Int)from rfl,←Int.ofNat_fdiv,bE]
 have:=x.toNat_lt;omega
theorem jK(n:UInt16):Mm n=some(OW n.toNat):=by
 unfold Mm
 refine Cg(fun s=>s.1.toNat)(fun s=>s.2.length≤10∧s.2.length+(OW s.1.toNat).length≤5∧OW n.toNat=OW s.1.toNat++s.2)(fun r=>r= .inr(OW n.toNat))⟨by simp,by simpa using SN _,by simp⟩ ?_ ?_
 ·rintro⟨c,t⟩⟨h1,h2,h3⟩
  have hc:=c.toNat_lt
  dsimp only at h1 h2 h3 ⊢
  rw[and15(by omega),bE(by omega),BF]
  have d:=Uk⟨c.toNat%16,by omega⟩
  obtain⟨y,f1,f2⟩:=shr16 c
  have hx:((if(uG((hd(c.toNat%16)).toNat:Int)).length+t.length≤2*Bf then some(uG((hd(c.toNat%16)).toNat:Int)++t)else none):Option AN)=some(hd(c.toNat%16)::t):=by
   rw[enc_hd⟨c.toNat%16,by omega⟩,if_pos(by simp;unfold Bf;omega)];rfl
  have hg:=dU(n:=c.toNat)(by omega)
  by_cases hy:y.toNat=0
  ·right
   refine⟨.inr(OW n.toNat),?_,rfl⟩
   refine(congrArg(fun x:Option UInt8=>x.bind _)d).trans ?_
   rw[Option.bind_some,hx,Option.bind_some,f1,Option.bind_some,if_pos(by rw[decide_eq_true_eq,hy];rfl)]
   rw[h3,hg,if_pos(by omega),Nat.mod_eq_of_lt(show c.toNat<16 by omega)]
   rfl
  ·left
   rw[if_neg(by omega)]at hg
   rw[hg,List.length_append,List.length_singleton,←f2]at h2
   refine⟨(y,hd(c.toNat%16)::t),?_,⟨by simp;omega,by simp;omega,?_⟩,by dsimp only;omega⟩
   ·refine(congrArg(fun x:Option UInt8=>x.bind _)d).trans ?_
    rw[Option.bind_some,hx,Option.bind_some,f1,Option.bind_some,if_neg(by rw[decide_eq_true_eq];intro h;exact hy(by simpa using h))]
   ·dsimp only;rw[h3,hg,f2];simp
 ·rintro _ rfl;rfl
theorem UE: ∀(k n:Nat),n<65536→(Dd k(n:Int)=none∨Dd k(n:Int)=some(OW n))∧(n<16^(k+1)→Dd(k+1)(n:Int)=some(OW n)):=by
 have step: ∀(k n:Nat),n<65536→Dd(k+1)(n:Int)=if n<16 then some(OW n)else(Dd k((n/16:Nat):Int)).bind fun x=>if x.length+1≤2*Bf then some(x++[hd(n%16)])else none:=by
  intro k n hn
  rw[Dd]
  by_cases h:n<16
  ·rw[if_pos(by rw[decide_eq_true_eq];omega),if_pos h,Kh⟨n,h⟩,dU hn,if_pos h];rfl
  ·have q1:IntKind.i64.wrap(Int.tdiv(n:Int)16)=((n/16:Nat):Int):=by
    rw[show(16:Int)=((16:Nat):Int)from rfl,←Int.ofNat_tdiv,B1(by omega)]
   have q2:Int.tmod(n:Int)16=((n%16:Nat):Int):=by
    rw[show(16:Int)=((16:Nat):Int)from rfl,←Int.ofNat_tmod]
   have d:=Kh⟨n%16,by omega⟩
   dsimp only at d
   rw[if_neg(by rw[decide_eq_true_eq];omega),if_neg h,if_neg(by decide),Option.bind_some,q1]
   congr 1
   funext x
   rw[if_neg(by decide),Option.bind_some,q2,d,Option.bind_some]
   by_cases hx:x.length+1≤2*Bf
   ·rw[if_pos(by simpa using hx),if_pos hx];rfl
   ·rw[if_neg(by simpa using hx),if_neg hx];rfl
 intro k
 induction k with
 |zero=>
  intro n hn
  refine⟨.inl rfl,fun h=> ?_⟩
  rw[step 0 n hn,if_pos(by simpa using h)]
 |succ k ih=>
  intro n hn
  have fin:Dd k((n/16:Nat):Int)=some(OW(n/16))→ ¬n<16→Dd(k+1)(n:Int)=some(OW n):=fun e h=>by
   have hl:=SN(n/16)
   rw[step k n hn,if_neg h,e,Option.bind_some,if_pos(by unfold Bf;omega),dU hn,if_neg h]
  have fin': ∀k,Dd k((n/16:Nat):Int)=some(OW(n/16))→ ¬n<16→Dd(k+1)(n:Int)=some(OW n):=fun k e h=>by
   have hl:=SN(n/16)
   rw[step k n hn,if_neg h,e,Option.bind_some,if_pos(by unfold Bf;omega),dU hn,if_neg h]
  constructor
  ·by_cases h:n<16
   ·right;rw[step k n hn,if_pos h]
   ·rcases(ih(n/16)(by omega)).1 with e|e
    ·left;rw[step k n hn,if_neg h,e];rfl
    ·right;exact fin e h
  ·intro hp
   by_cases h:n<16
   ·rw[step(k+1)n hn,if_pos h]
   ·refine fin'(k+1)((ih(n/16)(by omega)).2 ?_)h
    rw[Nat.div_lt_iff_lt_mul(by decide),←Nat.pow_succ];exact hp
theorem sJ(n:Nat)(h:n<65536):Qm(n:Int)=some(OW n):=
 jS(fun k=>(UE k n h).1)((UE 4 n h).2(by omega))
def G16(B:List UInt8)(i:Nat):Nat:=256*((B[2*i]?).getD 0).toNat+((B[2*i+1]?).getD 0).toNat
theorem AaV(B:List UInt8)(i:Nat):G16 B i<65536:=by
 have h1:=((B[2*i]?).getD 0).toNat_lt
 have h2:=((B[2*i+1]?).getD 0).toNat_lt
 unfold G16;omega
theorem or8{x y:Nat}(hx:x<256)(hy:y<256):JG .or .u64((256*x:Nat):Int)(y:Int)=((256*x+y:Nat):Int):=by
 show((BitVec.ofInt 64((256*x:Nat):Int)|||BitVec.ofInt 64(y:Int)).toNat:Int)=_
 rw[BitVec.toNat_or]
 have e1:(BitVec.ofInt 64((256*x:Nat):Int)).toNat=256*x:=by rw[BitVec.toNat_ofInt];omega
 have e2:(BitVec.ofInt 64(y:Int)).toNat=y:=by rw[BitVec.toNat_ofInt];omega
 rw[e1,e2,show 256*x=2^8*x from rfl,←Nat.two_pow_add_eq_or_of_lt hy]
theorem shl8(x:UInt64)(h:x.toNat<256): ∃y:UInt64,(if((8:UInt64).toNat:Int)<0 then none else some(BS((x.toNat:Int)*2^(min((8:UInt64).toNat:Int).toNat 64))))=some y∧y.toNat=256*x.toNat:=by
 refine⟨_,if_neg(by decide),?_⟩
 rw[show((2:Int)^(min((8:UInt64).toNat:Int).toNat 64))=256 from rfl,show(x.toNat:Int)*256=((256*x.toNat:Nat):Int)by omega,Ke(by omega)]
theorem sized2(x y:UInt8):Ln(.mk [x,y])=some true:=by
 unfold Ln;rfl
end Go.Proofs.YtobejhpigbllpaaGreatDoor.Am
namespace Go.Proofs.YtobejhpigbllpaaGreatDoor.Am
theorem AaE{n a b:Nat}(h:a≤b)(h':b≤n):T4 n(some(a:Int))(some(b:Int))=some(a,b):=by
 simp[T4,h,h']
theorem AaD{n a:Nat}(h:a≤n):T4 n(some(a:Int))none=some(a,n):=by
 simp[T4,h]
theorem ofBig2(x y:UInt8): ∃v:UInt64,Lo(.mk [x,y])=some(v,0)∧v.toNat=256*x.toNat+y.toNat:=by
 have hx:=x.toNat_lt
 have hy:=y.toNat_lt
 obtain⟨z0,f0,g0⟩:=shl8 0(by decide)
 have hx64:=Ke(m:=x.toNat)(by omega)
 have hy64:=Ke(m:=y.toNat)(by omega)
 have v1:(BS(JG .or .u64(z0.toNat:Int)((BS(x.toNat:Int)).toNat:Int))).toNat=x.toNat:=by
  rw[hx64,g0,show(0:UInt64).toNat=0 from rfl,or8(x:=0)(by decide)(by omega),Nat.mul_zero,Nat.zero_add,hx64]
 obtain⟨z1,f1,g1⟩:=shl8(BS(JG .or .u64(z0.toNat:Int)((BS(x.toNat:Int)).toNat:Int)))(by omega)
 rw[v1]at g1
 refine⟨BS(JG .or .u64(z1.toNat:Int)((BS(y.toNat:Int)).toNat:Int)),?_,?_⟩
 ·unfold Lo
  rw[sized2,Option.bind_some,if_neg(by decide)]
  rw[Qs(s':=(BS(JG .or .u64(z0.toNat:Int)((BS(x.toNat:Int)).toNat:Int)),1)),Qs(s':=(BS(JG .or .u64(z1.toNat:Int)((BS(y.toNat:Int)).toNat:Int)),2)),Uh(b:= .inl(BS(JG .or .u64(z1.toNat:Int)((BS(y.toNat:Int)).toNat:Int))))]
  ·rfl
  ·rfl
  ·dsimp only
   rw[if_pos(by simp),show Fv(GS.mk [x,y]).l 1=some y from rfl,Option.bind_some,f1]
   rfl
  ·dsimp only
   rw[if_pos(by simp),show Fv(GS.mk [x,y]).l 0=some x from rfl,Option.bind_some,f0]
   rfl
 ·rw[hy64,g1,or8(by omega)(by omega),Ke(by omega)]
theorem two_of{l:List UInt8}{i:Nat}(h:2*i+1<l.length):(l.drop(2*i)).take(2*i+2-2*i)=[(l[2*i]?).getD 0,(l[2*i+1]?).getD 0]:=by
 rw[show 2*i+2-2*i=2 by omega,List.drop_eq_getElem_cons(show 2*i<l.length by omega),List.drop_eq_getElem_cons h,List.getElem?_eq_getElem(show 2*i<l.length by omega),List.getElem?_eq_getElem h]
 rfl
def vals(B:List UInt8):List Nat:=(List.range 8).map(G16 B)
theorem Ur(B:Ar UInt8 16): ∃G:Ar UInt16 8,Lp B=some G∧G.l.map(·.toNat)=vals B.l:=by
 have hB:=B.len
 unfold Lp
 refine dN(fun s=>8-s.1.toNat)(fun s=> ∃i:Nat,s.1=i∧i≤8∧(s.2.l.take i).map(·.toNat)=(List.range i).map(G16 B.l))(fun r=> ∃G:Ar UInt16 8,r= .inl G∧G.l.map(·.toNat)=vals B.l)⟨0,rfl,by omega,rfl⟩ ?_ ?_
 ·rintro⟨s,A⟩⟨i,rfl,hi,hA⟩
  dsimp only at hA ⊢
  by_cases hlt:i<8
  ·left
   have w1:IntKind.i64.wrap(2*(i:Int))=((2*i:Nat):Int):=by rw[show 2*(i:Int)=((2*i:Nat):Int)by omega,B1(by omega)]
   have w2:IntKind.i64.wrap(((2*i:Nat):Int)+2)=((2*i+2:Nat):Int):=by rw[show((2*i:Nat):Int)+2=((2*i+2:Nat):Int)by omega,B1(by omega)]
   obtain⟨v,e,hv⟩:=ofBig2((B.l[2*i]?).getD 0)((B.l[2*i+1]?).getD 0)
   have hg:=AaV B.l i
   have hv':v.toNat=G16 B.l i:=hv
   rw[if_pos(by rw[decide_eq_true_eq];omega),w1,w2,AaE(by omega)(by omega),Option.bind_some]
   dsimp only
   rw[if_pos(by omega),two_of(by omega),e,Option.bind_some,Co hlt,Option.bind_some,if_pos hlt,Option.bind_some]
   refine⟨_,rfl,⟨i+1,?_,by omega,?_⟩,?_⟩
   ·dsimp only;rw[show(i:Int)+1=((i+1:Nat):Int)by omega,B1(by omega)]
   ·dsimp only
    have:((A.set i(Xe(v.toNat:Int))).l.take(i+1))=A.l.take i++[Xe(v.toNat:Int)]:=cK(by rw[A.len];exact hlt)rfl
    rw[this,List.map_append,hA,List.range_succ,List.map_append,List.map_singleton,List.map_singleton,bE(by omega),hv']
   ·dsimp only;rw[show(i:Int)+1=((i+1:Nat):Int)by omega,B1(by omega)];omega
  ·right
   rw[if_neg(by rw[decide_eq_true_eq];omega)]
   refine⟨_,rfl,A,rfl,?_⟩
   obtain rfl:i=8:=by omega
   rw[List.take_of_length_le(by rw[A.len];omega)]at hA
   exact hA
 ·rintro _⟨G,rfl,hG⟩
  exact⟨G,rfl,hG⟩
theorem WX(B:Ar UInt8 16): ∃G:Ar Int 8,NV B=some G∧G.l=(vals B.l).map fun n:Nat=>(n:Int):=by
 have hB:=B.len
 unfold NV
 refine dN(fun s=>8-s.1.toNat)(fun s=> ∃i:Nat,s.1=i∧i≤8∧s.2.l.take i=((List.range i).map(G16 B.l)).map fun n:Nat=>(n:Int))(fun r=> ∃G:Ar Int 8,r= .inl G∧G.l=(vals B.l).map fun n:Nat=>(n:Int))⟨0,rfl,by omega,rfl⟩ ?_ ?_
 ·rintro⟨s,A⟩⟨i,rfl,hi,hA⟩
  dsimp only at hA ⊢
  by_cases hlt:i<8
  ·left
   have w1:IntKind.i64.wrap(2*(i:Int))=((2*i:Nat):Int):=by rw[show 2*(i:Int)=((2*i:Nat):Int)by omega,B1(by omega)]
   have w2:IntKind.i64.wrap(((2*i:Nat):Int)+1)=((2*i+1:Nat):Int):=by rw[show((2*i:Nat):Int)+1=((2*i+1:Nat):Int)by omega,B1(by omega)]
   have h1:2*i<B.l.length:=by omega
   have h2:2*i+1<B.l.length:=by omega
   have b1:=B.l[2*i].toNat_lt
   have b2:=B.l[2*i+1].toNat_lt
   have hG:G16 B.l i=256*B.l[2*i].toNat+B.l[2*i+1].toNat:=by
    unfold G16;rw[List.getElem?_eq_getElem h1,List.getElem?_eq_getElem h2];rfl
   have e1:IntKind.i64.wrap(IntKind.i64.wrap(256*IntKind.i64.wrap(B.l[2*i].toNat:Int))+IntKind.i64.wrap(B.l[2*i+1].toNat:Int))=(G16 B.l i:Int):=by
    rw[B1(by omega),B1(by omega),show 256*(B.l[2*i].toNat:Int)=((256*B.l[2*i].toNat:Nat):Int)by omega,B1(by omega),←Int.natCast_add,B1(by omega),hG]
   rw[if_pos(by rw[decide_eq_true_eq];omega),w1,w2,Co(by omega),Option.bind_some,List.getElem?_eq_getElem h1,Option.bind_some,Co(by omega),Option.bind_some,List.getElem?_eq_getElem h2,Option.bind_some,e1,Co hlt,Option.bind_some,if_pos hlt,Option.bind_some]
   refine⟨_,rfl,⟨i+1,?_,by omega,?_⟩,?_⟩
   ·dsimp only;rw[show(i:Int)+1=((i+1:Nat):Int)by omega,B1(by omega)]
   ·dsimp only
    have:((A.set i(G16 B.l i:Int)).l.take(i+1))=A.l.take i++[(G16 B.l i:Int)]:=cK(by rw[A.len];exact hlt)rfl
    rw[this,hA,List.range_succ,List.map_append,List.map_append];rfl
   ·dsimp only;rw[show(i:Int)+1=((i+1:Nat):Int)by omega,B1(by omega)];omega
  ·right
   rw[if_neg(by rw[decide_eq_true_eq];omega)]
   refine⟨_,rfl,A,rfl,?_⟩
   obtain rfl:i=8:=by omega
   rw[List.take_of_length_le(by rw[A.len];omega)]at hA
   exact hA
 ·rintro _⟨G,rfl,hG⟩
  exact⟨G,rfl,hG⟩
def Lg:List Bool→Nat→Nat→Nat→Nat→Nat×Nat
 |[],_,p,z,_=>(p,z)
 |b::l,i,p,z,w=>if b then(if z<w+1 then Lg l(i+1)(i+1-(w+1))(w+1)(w+1)else Lg l(i+1)p z(w+1))else Lg l(i+1)p z 0
def WP:List Bool→Nat
 |[]=>0
 |b::l=>if b then WP l+1 else 0
theorem pR: ∀l,WP l≤l.length
 |[]=>Nat.le_refl _
 |b::l=>by have:=pR l;cases b<;>simp[WP];omega
theorem pS: ∀(l:List Bool)(k:Nat),k<WP l→l[k]? =some true
 |[],k,h=>by simp[WP]at h
 |false::l,k,h=>by simp[WP]at h
 |true::l,0,_=>rfl
 |true::l,k+1,h=>by simp only[WP,if_true]at h;simpa using pS l k(by omega)
theorem gR: ∀(l:List Bool),WP l<l.length→l[WP l]? =some false
 |[],h=>by simp at h
 |false::l,_=>rfl
 |true::l,h=>by simp only[WP,if_true,List.length_cons]at h ⊢;simpa using gR l(by omega)
def NR(l:List Bool)(i:Nat):Nat:=WP(l.drop i)
def mZ(l:List Bool):Nat→Nat→Nat→Nat→Nat×Nat
 |0,_,p,z=>(p,z)
 |k+1,i,p,z=>if z<NR l i then mZ l k(i+1)i(NR l i)else mZ l k(i+1)p z
theorem yM: ∀a b c d e f g h:Bool,Lg [a,b,c,d,e,f,g,h]0 0 0 0=mZ [a,b,c,d,e,f,g,h]8 0 0 0∧(Lg [a,b,c,d,e,f,g,h]0 0 0 0).1+(Lg [a,b,c,d,e,f,g,h]0 0 0 0).2≤8:=by decide+kernel
theorem iH{l:List Bool}(h:l.length=8):Lg l 0 0 0 0=mZ l 8 0 0 0∧(Lg l 0 0 0 0).1+(Lg l 0 0 0 0).2≤8:=by
 match l,h with
 |[a,b,c,d,e,f,g,h],_=>exact yM a b c d e f g h
def LE(l:List Nat):List Bool:=l.map fun n=>decide(n=0)
theorem iG(G:Ar UInt16 8):Kl G=some(((Lg(LE(G.l.map(·.toNat)))0 0 0 0).1:Int),((Lg(LE(G.l.map(·.toNat)))0 0 0 0).2:Int)):=by
 have hG:=G.len
 unfold Kl
 refine Cg(fun s=>8-s.2.2.2.toNat)(fun s=> ∃p z w i:Nat,s=((p:Int),(z:Int),(w:Int),(i:Int))∧i≤8∧w≤i∧Lg(LE(G.l.map(·.toNat)))0 0 0 0=Lg((LE(G.l.map(·.toNat))).drop i)i p z w)
  (fun r=>r= .inl(((Lg(LE(G.l.map(·.toNat)))0 0 0 0).1:Int),((Lg(LE(G.l.map(·.toNat)))0 0 0 0).2:Int)))⟨0,0,0,0,rfl,by omega,by omega,rfl⟩ ?_ ?_
 ·rintro _⟨p,z,w,i,rfl,hi,hw,he⟩
  dsimp only
  by_cases hlt:i<8
  ·left
   have hz:(LE(G.l.map(·.toNat))).drop i=decide(G.l[i].toNat=0)::(LE(G.l.map(·.toNat))).drop(i+1):=by
    rw[List.drop_eq_getElem_cons(by simp[LE];omega)];simp[LE]
   rw[hz,Lg]at he
   rw[if_pos(by rw[decide_eq_true_eq];omega),BF,List.getElem?_eq_getElem(show i<G.l.length by omega),Option.bind_some]
   have w1:IntKind.i64.wrap((i:Int)+1)=((i+1:Nat):Int):=by rw[show(i:Int)+1=((i+1:Nat):Int)by omega,B1(by omega)]
   have w2:IntKind.i64.wrap((w:Int)+1)=((w+1:Nat):Int):=by rw[show(w:Int)+1=((w+1:Nat):Int)by omega,B1(by omega)]
   rw[w1,w2]
   by_cases h0:G.l[i].toNat=0
   ·rw[if_neg(by rw[h0];decide)]
    rw[if_pos(by simpa using h0)]at he
    by_cases h1:z<w+1
    ·rw[if_pos(by rw[decide_eq_true_eq];omega)]
     rw[if_pos h1]at he
     have w3:IntKind.i64.wrap(((i+1:Nat):Int)-((w+1:Nat):Int))=((i+1-(w+1):Nat):Int):=by rw[show((i+1:Nat):Int)-((w+1:Nat):Int)=((i+1-(w+1):Nat):Int)by omega,B1(by omega)]
     rw[w3]
     exact⟨_,rfl,⟨_,_,_,_,rfl,by omega,by omega,he⟩,by dsimp only;omega⟩
    ·rw[if_neg(by rw[decide_eq_true_eq];omega)]
     rw[if_neg h1]at he
     exact⟨_,rfl,⟨_,_,_,_,rfl,by omega,by omega,he⟩,by dsimp only;omega⟩
   ·rw[if_pos(by rw[show((0:UInt16).toNat:Int)=0 from rfl];simp;omega)]
    rw[if_neg(by simpa using h0)]at he
    exact⟨_,rfl,⟨p,z,0,_,rfl,by omega,by omega,he⟩,by dsimp only;omega⟩
  ·right
   rw[if_neg(by rw[decide_eq_true_eq];omega)]
   obtain rfl:i=8:=by omega
   rw[List.drop_of_length_le(by simp[LE,hG])]at he
   exact⟨_,rfl,by rw[he];rfl⟩
 ·rintro _ rfl;rfl
theorem gY(G:Ar Int 8)(l:List Nat)(hG:G.l=l.map fun n:Nat=>(n:Int))(i:Nat)(hi:i≤8):S2 G(i:Int)=some(NR(LE l)i:Int):=by
 have hl:l.length=8:=by have:=G.len;rw[hG]at this;simpa using this
 unfold S2
 have hd:((LE l).drop i).length=8-i:=by simp[LE,hl]
 have hle:NR(LE l)i+i≤8:=by
  have:=pR((LE l).drop i)
  unfold NR;omega
 have hall: ∀k,k<NR(LE l)i→l[i+k]? =some 0:=by
  intro k hk
  have h2:=pS _ k hk
  rw[List.getElem?_drop]at h2
  simp only[LE,List.getElem?_map]at h2
  obtain⟨x,hx,e⟩:=Option.map_eq_some_iff.1 h2
  rw[hx];simpa using e
 have hend:i+NR(LE l)i<8→ ∃x,l[i+NR(LE l)i]? =some x∧x≠0:=by
  intro hlt
  have h2:=gR((LE l).drop i)(by unfold NR at hlt;omega)
  rw[List.getElem?_drop]at h2
  have h3:(LE l)[i+NR(LE l)i]? =some false:=h2
  generalize NR(LE l)i=m at h3 ⊢
  simp only[LE,List.getElem?_map]at h3
  obtain⟨x,hx,e⟩:=Option.map_eq_some_iff.1 h3
  exact⟨x,hx,by simpa using e⟩
 refine Cg(fun s=>8-s.toNat)(fun s=> ∃k:Nat,s=k∧k≤NR(LE l)i)(fun r=>r= .inl(NR(LE l)i:Int))⟨0,rfl,by omega⟩ ?_ ?_
 ·rintro _⟨k,rfl,hk⟩
  have w1:IntKind.i64.wrap((i:Int)+(k:Int))=((i+k:Nat):Int):=by rw[←Int.natCast_add,B1(by omega)]
  rw[w1]
  have hget: ∀x,l[i+k]? =some x→i+k<8→((DU 8((i+k:Nat):Int)).bind fun x6=>(G.l[x6]?).bind fun x7=>some(decide(x7=0)))=some(decide(x=0)):=by
   intro x hx hlt
   rw[Co hlt,Option.bind_some,hG,List.getElem?_map,hx,Option.map_some,Option.bind_some]
   simp
  rcases Nat.lt_or_ge k(NR(LE l)i)with hlt|hge
  ·left
   rw[decide_eq_true(show((i+k:Nat):Int)<8 by omega),hget 0(hall k hlt)(by omega)]
   refine⟨((k+1:Nat):Int),?_,⟨k+1,rfl,hlt⟩,by omega⟩
   show some(Sum.inl(IntKind.i64.wrap((k:Int)+1)))=_
   rw[show(k:Int)+1=((k+1:Nat):Int)by omega,B1(by omega)]
  ·right
   obtain rfl:k=NR(LE l)i:=by omega
   refine⟨_,?_,rfl⟩
   rcases Nat.lt_or_ge(i+NR(LE l)i)8 with h8|h8
   ·obtain⟨x,hx,hne⟩:=hend h8
    rw[decide_eq_true(show((i+NR(LE l)i:Nat):Int)<8 by omega),hget x hx h8,decide_eq_false hne]
    rfl
   ·rw[decide_eq_false(show¬((i+NR(LE l)i:Nat):Int)<8 by omega)]
    rfl
 ·rintro _ rfl;rfl
def TP(l:List Nat):AN:=E2 [58](l.map OW)
theorem Jm(l:List Nat):(TP l).length≤6*l.length:=by
 unfold TP
 rw[L7]
 have:=Wz(l:=l.map OW)(n:=5)(fun x hx=>by obtain⟨b,_,rfl⟩:=List.mem_map.1 hx;exact SN _)
 simp at this ⊢
 omega
theorem MV(g:GS UInt16)(hg:g.l.length≤8):LB g=some(TP(g.l.map(·.toNat))):=by
 unfold LB
 refine Cg(fun s=>g.l.length-s.1.toNat)(fun s=> ∃i:Nat,s.1=i∧i≤g.l.length∧s.2=ZW((g.l.take i).map fun x=>OW x.toNat))(fun r=>r= .inl(ZW(g.l.map fun x=>OW x.toNat)))⟨0,rfl,by omega,rfl⟩ ?_ ?_
 ·rintro⟨s,t⟩⟨i,rfl,hi,rfl⟩
  dsimp only
  by_cases hlt:i<g.l.length
  ·left
   rw[if_pos(by rw[decide_eq_true_eq];omega),BF,List.getElem?_eq_getElem hlt,Option.bind_some,jK,Option.bind_some,Kt(by rw[Rg,List.length_map,List.length_take];unfold Bf;omega),Option.bind_some]
   refine⟨_,rfl,⟨i+1,?_,by omega,?_⟩,?_⟩
   ·dsimp only;rw[show(i:Int)+1=((i+1:Nat):Int)by omega,B1(by omega)]
   ·dsimp only;rw[Rg,List.take_succ_eq_append_getElem hlt,List.map_append,List.map_singleton,PM]
   ·dsimp only;rw[show(i:Int)+1=((i+1:Nat):Int)by omega,B1(by omega)];omega
  ·right
   rw[if_neg(by rw[decide_eq_true_eq];omega)]
   exact⟨_,rfl,by rw[List.take_of_length_le(by omega)]⟩
 ·rintro _ rfl
  dsimp only[Sum.elim_inl]
  have hl:=Jm(g.l.map(·.toNat))
  have he:(ZW(g.l.map fun x=>OW x.toNat)).l=(g.l.map(·.toNat)).map OW:=by rw[Rg,List.map_map];rfl
  rw[List.length_map]at hl
  have hj:=jI(ZW(g.l.map fun x=>OW x.toNat)) [58](by rw[he];simp;omega)(by decide)(by rw[he];exact Nat.lt_of_le_of_lt hl(by omega))
  rw[hj,he];rfl
theorem P6(G:Ar Int 8)(l:List Nat)(hG:G.l=l.map fun n:Nat=>(n:Int))(hb: ∀n∈l,n<65536)(a b:Nat)(hab:a≤b)(h8:b≤8):Qk G(a:Int)(b:Int)=some(TP((l.take b).drop a)):=by
 have hl:l.length=8:=by have:=G.len;rw[hG]at this;simpa using this
 unfold Qk
 refine Cg(fun s=>b-s.2.toNat)(fun s=> ∃i:Nat,s.2=i∧a≤i∧i≤b∧s.1=TP((l.take i).drop a))(fun r=>r= .inl(TP((l.take b).drop a)))⟨a,rfl,by omega,hab,by rw[List.drop_of_length_le(by rw[List.length_take];omega)];rfl⟩ ?_ ?_
 ·rintro⟨t,s⟩⟨i,rfl,hi,hib,rfl⟩
  dsimp only
  have hln:=Jm((l.take i).drop a)
  rw[List.length_drop,List.length_take]at hln
  by_cases hlt:i<b
  ·left
   have hil:i<l.length:=by omega
   have hgl:=SN l[i]
   rw[if_pos(by rw[decide_eq_true_eq];omega)]
   have hnext:(l.take(i+1)).drop a=(l.take i).drop a++[l[i]]:=by
    rw[List.take_succ_eq_append_getElem hil,List.drop_append_of_le_length(by rw[List.length_take];omega)]
   have hgrp:Qm((l[i]:Nat):Int)=some(OW l[i]):=sJ _(hb _(List.getElem_mem hil))
   have hGi:G.l[i]? =some((l[i]:Nat):Int):=by rw[hG,List.getElem?_map,List.getElem?_eq_getElem hil];rfl
   refine⟨(TP((l.take(i+1)).drop a),((i+1:Nat):Int)),?_,⟨i+1,rfl,by omega,by omega,rfl⟩,by dsimp only;omega⟩
   by_cases hai:a<i
   ·rw[if_pos(by rw[decide_eq_true_eq];omega),if_pos(by simp;unfold Bf;omega),Option.bind_some,Option.bind_some]
    dsimp only[Sum.elim_inl]
    rw[Co(by omega),Option.bind_some,hGi,Option.bind_some,hgrp,Option.bind_some,if_pos(by simp;unfold Bf;omega),Option.bind_some,hnext]
    unfold TP
    rw[List.map_append,List.map_singleton,Oi _ _ _(by
     intro h
     have:=congrArg List.length h
     simp at this
     omega),show(i:Int)+1=((i+1:Nat):Int)by omega,B1(by omega)]
   ·rw[if_neg(by rw[decide_eq_true_eq];omega),Option.bind_some]
    dsimp only[Sum.elim_inl]
    obtain rfl:a=i:=by omega
    have hnil:TP((l.take a).drop a)=[]:=by rw[List.drop_of_length_le(by rw[List.length_take];omega)];rfl
    rw[hnil,Co(by omega),Option.bind_some,hGi,Option.bind_some,hgrp,Option.bind_some,if_pos(by simp;unfold Bf;omega),Option.bind_some,hnext,List.drop_of_length_le(by rw[List.length_take];omega),show(a:Int)+1=((a+1:Nat):Int)by omega,B1(by omega)]
    rfl
  ·right
   rw[if_neg(by rw[decide_eq_true_eq];omega)]
   obtain rfl:i=b:=by omega
   exact⟨_,rfl,rfl⟩
 ·rintro _ rfl;rfl
def lI(B:List UInt8):AN:=
 let v:=vals B
 let q:=Lg(LE v)0 0 0 0
 if q.2<2 then TP v else TP(v.take q.1)++[58,58]++TP(v.drop(q.1+q.2))
theorem HZ(B:List UInt8):(vals B).length=8:=by simp[vals]
theorem bB(B:List UInt8): ∀n∈vals B,n<65536:=fun n hn=>by
 obtain⟨i,_,rfl⟩:=List.mem_map.1 hn;exact AaV B i
theorem Aa4(B:List UInt8):(lI B).length≤100:=by
 unfold lI
 dsimp only
 split
 ·have:=Jm(vals B);rw[HZ]at this;omega
 ·rename_i h
  have h1:=Jm((vals B).take(Lg(LE(vals B))0 0 0 0).1)
  have h2:=Jm((vals B).drop((Lg(LE(vals B))0 0 0 0).1+(Lg(LE(vals B))0 0 0 0).2))
  rw[List.length_take,HZ]at h1
  rw[List.length_drop,HZ]at h2
  simp only[List.length_append,List.length_cons,List.length_nil]
  omega
theorem oR(B:Ar UInt8 16):Ow B=some(lI B.l):=by
 obtain⟨G,e1,hG⟩:=Ur B
 have hGl:=G.len
 have e2:=iG G
 rw[hG]at e2
 obtain⟨_,hq⟩:=iH(l:=LE(vals B.l))(by simp[LE,HZ])
 unfold Ow lI
 rw[e1,Option.bind_some,e2,Option.bind_some]
 dsimp only
 generalize Lg(LE(vals B.l))0 0 0 0=q at*
 obtain⟨p,z⟩:=q
 dsimp only at*
 by_cases h:z<2
 ·rw[if_pos(by rw[decide_eq_true_eq];omega),if_pos h,if_pos(by decide),List.drop_zero,List.take_of_length_le(by omega),MV _(by simp;omega),Fc,hG]
  rfl
 ·have hr1:=MV(.mk(G.l.take p))(by simp;omega)
  have hr2:=MV(.mk(G.l.drop(p+z)))(by simp;omega)
  rw[Fc,List.map_take,hG]at hr1
  rw[Fc,List.map_drop,hG]at hr2
  have l1:=Jm((vals B.l).take p)
  have l2:=Jm((vals B.l).drop(p+z))
  rw[List.length_take,HZ]at l1
  rw[List.length_drop,HZ]at l2
  rw[if_neg(by rw[decide_eq_true_eq];omega),if_neg h,AaB(by omega),Option.bind_some,if_pos(by omega),List.drop_zero,hr1,Option.bind_some,if_pos(by simp;unfold Bf;omega),Option.bind_some,
   show(p:Int)+(z:Int)=((p+z:Nat):Int)by omega,B1(by omega),AaD(by omega),Option.bind_some]
  dsimp only
  rw[if_pos(by omega),List.take_of_length_le(by rw[List.length_drop];omega),hr2,Option.bind_some,if_pos(by simp;unfold Bf;omega)]
  rfl
theorem wJ(B:Ar UInt8 16):S3 B=some(lI B.l):=by
 obtain⟨G,e1,hG⟩:=WX B
 obtain⟨hAB,hq⟩:=iH(l:=LE(vals B.l))(by simp[LE,HZ])
 have hv:=HZ B.l
 generalize hR:mZ(LE(vals B.l))8 0 0 0=R at*
 unfold S3
 rw[e1,Option.bind_some]
 refine Cg(fun s=>8-s.2.2.toNat)(fun s=> ∃p z i:Nat,s=((p:Int),(z:Int),(i:Int))∧i≤8∧R=mZ(LE(vals B.l))(8-i)i p z)
  (fun r=>r= .inl(((Lg(LE(vals B.l))0 0 0 0).1:Int),((Lg(LE(vals B.l))0 0 0 0).2:Int)))⟨0,0,0,rfl,by omega,hR.symm⟩ ?_ ?_
 ·rintro _⟨p,z,i,rfl,hi,he⟩
  dsimp only
  by_cases hlt:i<8
  ·left
   have w1:IntKind.i64.wrap((i:Int)+1)=((i+1:Nat):Int):=by rw[show(i:Int)+1=((i+1:Nat):Int)by omega,B1(by omega)]
   rw[if_pos(by rw[decide_eq_true_eq];omega),gY G _ hG i(by omega),Option.bind_some,w1]
   rw[show 8-i=(8-(i+1))+1 by omega,mZ]at he
   by_cases h:z<NR(LE(vals B.l))i
   ·rw[if_pos(by rw[decide_eq_true_eq];omega),Option.bind_some]
    rw[if_pos h]at he
    exact⟨_,rfl,⟨_,_,_,rfl,by omega,he⟩,by dsimp only;omega⟩
   ·rw[if_neg(by rw[decide_eq_true_eq];omega)]
    rw[if_neg h]at he
    exact⟨_,rfl,⟨_,_,_,rfl,by omega,he⟩,by dsimp only;omega⟩
  ·right
   rw[if_neg(by rw[decide_eq_true_eq];omega)]
   obtain rfl:i=8:=by omega
   refine⟨_,rfl,?_⟩
   rw[hAB,he];rfl
 ·rintro _ rfl
  dsimp only[Sum.elim_inl]
  unfold lI
  dsimp only
  generalize Lg(LE(vals B.l))0 0 0 0=q at*
  obtain⟨p,z⟩:=q
  dsimp only at*
  have l1:=Jm((vals B.l).take p)
  have l2:=Jm((vals B.l).drop(p+z))
  rw[List.length_take,HZ]at l1
  rw[List.length_drop,HZ]at l2
  have hr0:=P6 G _ hG(bB B.l)0 8(by omega)(by omega)
  rw[List.drop_zero,List.take_of_length_le(by omega)]at hr0
  by_cases h:z<2
  ·rw[if_pos(by rw[decide_eq_true_eq];omega),if_pos h]
   exact(congrArg(fun x:Option AN=>x.bind fun y=>some y)hr0)
  ·have hr1:=P6 G _ hG(bB B.l)0 p(by omega)(by omega)
   have hr2:=P6 G _ hG(bB B.l)(p+z)8(by omega)(by omega)
   rw[List.drop_zero]at hr1
   rw[List.take_of_length_le(show(vals B.l).length≤8 by omega)]at hr2
   rw[if_neg(by rw[decide_eq_true_eq];omega),if_neg h,show(p:Int)+(z:Int)=((p+z:Nat):Int)by omega,B1(by omega)]
   refine(congrArg(fun x:Option AN=>x.bind _)hr1).trans ?_
   rw[Option.bind_some,if_pos(by simp;unfold Bf;omega),Option.bind_some]
   refine(congrArg(fun x:Option AN=>x.bind _)hr2).trans ?_
   rw[Option.bind_some,if_pos(by simp;unfold Bf;omega)]
   rfl
end Go.Proofs.YtobejhpigbllpaaGreatDoor.Am
namespace Go.Proofs.YtobejhpigbllpaaGreatDoor.Am
def PW(a:AB):AN:=if DS a=true then(if a.V=4 then QZ(a.B.l.take 4)else lI a.B.l)else []
theorem LD(a:AB):(PW a).length≤100:=by
 unfold PW
 split
 ·split
  ·have:=TS(a.B.l.take 4);rw[List.length_take]at this;omega
  ·exact Aa4 _
 ·simp
theorem WR{a:AB}(h:DS a=true)(h4: ¬a.V=4):a.V=6:=by
 unfold DS at h
 rw[decide_eq_true_eq]at h
 rcases h with h|h
 ·exact h
 ·exact absurd h.1 h4
theorem aT(a:AB):LC a=some(PW a):=by
 unfold LC PW
 rw[LT,Option.bind_some]
 by_cases h:DS a=true
 ·rw[h,if_neg(by decide),if_pos rfl]
  by_cases h4:a.V=4
  ·rw[if_pos(by rw[decide_eq_true_eq];exact h4),if_pos h4]
   exact congrArg(fun x:Option AN=>x.bind fun y=>some y)(sK _)
  ·rw[if_neg(by rw[decide_eq_true_eq];exact h4),if_neg h4,oR];rfl
 ·rw[if_neg h]
  have h':DS a=false:=by simpa using h
  rw[h',if_pos(by decide)]
theorem gX(a:AB):Np a=some(PW a):=by
 unfold Np PW
 rw[Nn,Option.bind_some]
 have hB:=a.B.len
 by_cases h:DS a=true
 ·rw[h,if_neg(by decide),if_pos rfl]
  by_cases h4:a.V=4
  ·rw[if_neg(by rw[decide_eq_true_eq];omega),if_pos h4]
   have g: ∀i:Nat,i<16→((DU 16(i:Int)).bind fun x=>a.B.l[x]?)=some((a.B.l[i]?).getD 0):=fun i hi=>by
    rw[Co hi,Option.bind_some,List.getElem?_eq_getElem(by omega)];rfl
   have e:[(a.B.l[0]?).getD 0,(a.B.l[1]?).getD 0,(a.B.l[2]?).getD 0,(a.B.l[3]?).getD 0]=a.B.l.take 4:=by
    match hl:a.B.l,hB with
    |b0::b1::b2::b3::r,_=>rfl
   have h0:a.B.l[0]? =some((a.B.l[0]?).getD 0):=by rw[List.getElem?_eq_getElem(by omega)];rfl
   have h1:a.B.l[1]? =some((a.B.l[1]?).getD 0):=by rw[List.getElem?_eq_getElem(by omega)];rfl
   have h2:a.B.l[2]? =some((a.B.l[2]?).getD 0):=by rw[List.getElem?_eq_getElem(by omega)];rfl
   have h3:a.B.l[3]? =some((a.B.l[3]?).getD 0):=by rw[List.getElem?_eq_getElem(by omega)];rfl
   rw[show(0:Int)=((0:Nat):Int)from rfl,Co(by decide),Option.bind_some,h0,Option.bind_some,show(1:Int)=((1:Nat):Int)from rfl,Co(by decide),Option.bind_some,h1,Option.bind_some,
    show(2:Int)=((2:Nat):Int)from rfl,Co(by decide),Option.bind_some,h2,Option.bind_some,show(3:Int)=((3:Nat):Int)from rfl,Co(by decide),Option.bind_some,h3,Option.bind_some,wK]
   exact congrArg(fun l=>some(QZ l))e
  ·rw[if_pos(by rw[decide_eq_true_eq];exact WR h h4),if_neg h4,wJ];rfl
 ·rw[if_neg h]
  have h':DS a=false:=by simpa using h
  rw[h',if_pos(by decide)]
def N1(e:AF):AN:=if Gu e=true then(if e.A.V=6 then [91]++PW e.A++[93,58]++Dz e.Port.toNat else PW e.A++[58]++Dz e.Port.toNat)else []
theorem tR(e:AF):(N1 e).length≤130:=by
 have h1:=LD e.A
 have h2:=Hr e.Port.toNat
 unfold N1
 split
 ·split<;>simp<;>omega
 ·simp
theorem UD{e:AF}(h:Gu e=true):DS e.A=true∧1≤e.Port∧e.Port≤65535:=by
 unfold Gu at h
 simpa [Bool.and_eq_true]using h
theorem S7{p:Int}(h:0≤p)(h':p<18446744073709551616):(BS p).toNat=p.toNat:=by
 have:=Ke(m:=p.toNat)(by omega)
 rwa [Int.toNat_of_nonneg h]at this
theorem tQ(e:AF):Ki e=some(N1 e):=by
 unfold Ki N1
 have hl:=LD e.A
 have hd:=Hr e.Port.toNat
 rw[RF,Option.bind_some]
 by_cases h:Gu e=true
 ·obtain⟨hA,p1,p2⟩:=UD h
  have hp:DE(BS e.Port)=some(Dz e.Port.toNat):=by rw[Ju,S7(by omega)(by omega)]
  rw[h,if_neg(by decide),if_pos rfl,hp,Option.bind_some,Yk,Option.bind_some,aT]
  have hw:(32:Int)<(Ej e.A:Int)↔e.A.V=6:=by
   unfold Ej
   rw[if_pos hA]
   by_cases h4:e.A.V=4
   ·rw[if_pos h4];omega
   ·rw[if_neg h4];have:=WR hA h4;omega
  by_cases h6:e.A.V=6
  ·rw[if_pos(by rw[decide_eq_true_eq];exact hw.2 h6),if_pos h6,Option.bind_some,if_pos(by simp;unfold Bf;omega),Option.bind_some,if_pos(by simp;unfold Bf;omega),Option.bind_some,if_pos(by simp;unfold Bf;omega)]
   rfl
  ·rw[if_neg(by rw[decide_eq_true_eq];exact fun g=>h6(hw.1 g)),if_neg h6,Option.bind_some,if_pos(by simp;unfold Bf;omega),Option.bind_some,if_pos(by simp;unfold Bf;omega)]
   rfl
 ·rw[if_neg h]
  have h':Gu e=false:=by simpa using h
  rw[h',if_pos(by decide)]
theorem wF(e:AF):P4 e=some(N1 e):=by
 unfold P4 N1
 have hl:=LD e.A
 have hd:=Hr e.Port.toNat
 rw[ZA,Option.bind_some]
 by_cases h:Gu e=true
 ·obtain⟨hA,p1,p2⟩:=UD h
  have hp:FT(BS e.Port)=some(Dz e.Port.toNat):=by rw[S5,S7(by omega)(by omega)]
  rw[h,if_neg(by decide),if_pos rfl,hp,Option.bind_some,if_pos(by simp;unfold Bf;omega),Option.bind_some,gX]
  by_cases h6:e.A.V=6
  ·rw[if_pos(by rw[decide_eq_true_eq];exact h6),if_pos h6,Option.bind_some,if_pos(by simp;unfold Bf;omega),Option.bind_some,if_pos(by simp;unfold Bf;omega),Option.bind_some,if_pos(by simp;unfold Bf;omega)]
   simp
  ·rw[if_neg(by rw[decide_eq_true_eq];exact h6),if_neg h6,Option.bind_some,if_pos(by simp;unfold Bf;omega)]
   simp
 ·rw[if_neg h]
  have h':Gu e=false:=by simpa using h
  rw[h',if_pos(by decide)]
def N8(p:Aq):AN:=if Hh p=true then PW p.A++[47]++Dz p.Bits.toNat else []
theorem uN(p:Aq):(N8 p).length≤130:=by
 have h1:=LD p.A
 have h2:=Hr p.Bits.toNat
 unfold N8
 split
 ·simp;omega
 ·simp
theorem UC{p:Aq}(h:Hh p=true):0≤p.Bits∧p.Bits≤128:=by
 unfold Hh at h
 simp only[Bool.and_eq_true,decide_eq_true_eq]at h
 have:=Wt p.A
 omega
theorem uL(p:Aq):Qx p=some(N8 p):=by
 unfold Qx N8
 have hl:=LD p.A
 have hd:=Hr p.Bits.toNat
 rw[Ox,Option.bind_some]
 by_cases h:Hh p=true
 ·obtain⟨b1,b2⟩:=UC h
  have hp:DE(BS p.Bits)=some(Dz p.Bits.toNat):=by rw[Ju,S7(by omega)(by omega)]
  rw[h,if_neg(by decide),if_pos rfl,aT,Option.bind_some,if_pos(by simp;unfold Bf;omega),Option.bind_some,hp,Option.bind_some,if_pos(by simp;unfold Bf;omega)]
  rfl
 ·rw[if_neg h]
  have h':Hh p=false:=by simpa using h
  rw[h',if_pos(by decide)]
theorem wG(p:Aq):P5 p=some(N8 p):=by
 unfold P5 N8
 have hl:=LD p.A
 have hd:=Hr p.Bits.toNat
 rw[Nl,Option.bind_some]
 by_cases h:Hh p=true
 ·obtain⟨b1,b2⟩:=UC h
  have hp:FT(BS p.Bits)=some(Dz p.Bits.toNat):=by rw[S5,S7(by omega)(by omega)]
  rw[h,if_neg(by decide),if_pos rfl,gX,Option.bind_some,if_pos(by simp;unfold Bf;omega),Option.bind_some,hp,Option.bind_some,if_pos(by simp;unfold Bf;omega)]
  rfl
 ·rw[if_neg h]
  have h':Hh p=false:=by simpa using h
  rw[h',if_pos(by decide)]
theorem qL: ∀k:Fin 16,hd k.1≠10:=by decide+kernel
theorem hexL_ne(l:List UInt8):(10:UInt8)∉JT l:=by
 intro h
 obtain⟨b,_,hb⟩:=List.mem_flatMap.1 h
 have hlt:=b.toNat_lt
 simp only[hexB,List.mem_cons,List.not_mem_nil,or_false]at hb
 rcases hb with hb|hb
 ·exact qL⟨b.toNat/16,by omega⟩hb.symm
 ·exact qL⟨b.toNat%16,by omega⟩hb.symm
theorem Aa1{k:Nat}(h:k<10):UInt8.ofNat(48+k)≠10:=by
 intro e
 have:=congrArg UInt8.toNat e
 rw[nat8(by omega)]at this
 simp at this
 omega
theorem lG: ∀(k n:Nat),(10:UInt8)∉KE k n
 |0,_=>by simp[KE]
 |k+1,n=>by
  rw[KE]
  split
  ·rename_i h
   simp only[List.mem_singleton]
   exact fun e=>Aa1 h e.symm
  ·simp only[List.mem_append,List.mem_singleton,not_or]
   exact⟨lG k _,fun e=>Aa1(Nat.mod_lt _(by decide))e.symm⟩
theorem Td(n:Nat):(10:UInt8)∉Dz n:=lG 20 n
theorem Xv{sep:AN}(hs:(10:UInt8)∉sep): ∀{l:List AN},(∀x∈l,(10:UInt8)∉x)→(10:UInt8)∉E2 sep l
 |[],_=>by simp[E2]
 |[x],h=>h x(by simp)
 |x::y::r,h=>by
  simp only[E2,List.mem_append,not_or]
  exact⟨⟨h x(by simp),hs⟩,Xv hs fun z hz=>h z(by simp[hz])⟩
theorem qP: ∀(k n:Nat),(10:UInt8)∉SO k n
 |0,_=>by simp[SO]
 |k+1,n=>by
  rw[SO]
  split
  ·rename_i h
   simp only[List.mem_singleton]
   exact fun e=>qL⟨n,h⟩e.symm
  ·simp only[List.mem_append,List.mem_singleton,not_or]
   exact⟨qP k _,fun e=>qL⟨n%16,Nat.mod_lt _(by decide)⟩e.symm⟩
theorem cM(l:List Nat):(10:UInt8)∉TP l:=Xv(by decide)fun x hx=>by
 obtain⟨n,_,rfl⟩:=List.mem_map.1 hx;exact qP 5 n
theorem Yl(a:AB):(10:UInt8)∉PW a:=by
 unfold PW
 split
 ·split
  ·exact Xv(by decide)fun x hx=>by obtain⟨n,_,rfl⟩:=List.mem_map.1 hx;exact Td _
  ·unfold lI
   dsimp only
   split
   ·exact cM _
   ·simp only[List.mem_append,not_or]
    exact⟨⟨cM _,by decide⟩,cM _⟩
 ·simp
theorem zA(e:AF):(10:UInt8)∉N1 e:=by
 unfold N1
 split
 ·split
  ·simp only[List.mem_append,not_or];exact⟨⟨⟨by decide,Yl _⟩,by decide⟩,Td _⟩
  ·simp only[List.mem_append,not_or];exact⟨⟨Yl _,by decide⟩,Td _⟩
 ·simp
theorem Aa6(p:Aq):(10:UInt8)∉N8 p:=by
 unfold N8
 split
 ·simp only[List.mem_append,not_or];exact⟨⟨Yl _,by decide⟩,Td _⟩
 ·simp
end Go.Proofs.YtobejhpigbllpaaGreatDoor.Am
namespace Go.Proofs.YtobejhpigbllpaaGreatDoor.Am
abbrev zK:Ar UInt8 32:=(Ay 32 T.u8).z
abbrev zE:AF:=Ao.z
abbrev zP:Aq:=Aj.z
def Rb(w:Nat):AN:=(tV.l[w]?).getD []
theorem Cn: ∀w:Fin 17,1≤w.1→G8(w.1:Int)=some(Rb w.1)∧Rb w.1≠[]∧61∉Rb w.1∧10∉Rb w.1∧(Rb w.1).length≤40∧((Qf()).bind fun g=>Fv g.l(w.1:Int))=some(Rb w.1):=by decide+kernel
def rR(f:Ap):AN:=
 if f.Word=1∨f.Word=5∨f.Word=8 then JT f.Key.l else if f.Word=9 then N1 f.End else if f.Word=12 then N8 f.P else Dz f.N.toNat
def K2(f:Ap):A7:=⟨Rb f.Word.toNat,rR f⟩
def mostF(w:Int):Nat:=if w=2∨w=10 then 65535 else if w=3 then 4294967295 else if w=13 then 1 else if w=16 then 20 else 18446744073709551615
def yQ(w:Int):Nat:=if w=13 then 1 else 0
inductive RS:Ap→Prop where
 |key{w:Int}{K:Ar UInt8 32}(hw:w=1∨w=5∨w=8):RS⟨w,K,0,zE,zP⟩
 |num{w:Int}{n:UInt64}(hw:w=2∨w=3∨w=10∨w=13∨w=14∨w=15∨w=16)(h1:yQ w≤n.toNat)(h2:n.toNat≤mostF w):RS⟨w,zK,n,zE,zP⟩
 |host{e:AF}(h:Gu e=true):RS⟨9,zK,0,e,zP⟩
 |pre{p:Aq}(h:Hh p=true):RS⟨12,zK,0,zE,p⟩
theorem JR(f:Ap):FI f=some(JT f.Key.l,true):=by
 unfold FI;rw[yT];rfl
theorem XN(f:Ap):Il f=some(N1 f.End,Gu f.End):=by
 unfold Il;rw[tQ,RF];rfl
theorem Tv(f:Ap):GJ f=some(N8 f.P,Hh f.P):=by
 unfold GJ;rw[uL,Ox];rfl
theorem sE{w:Int}{K:Ar UInt8 32}(hw:w=1∨w=5∨w=8):Gk⟨w,K,0,zE,zP⟩=some true:=by
 have hc:HN CI(⟨w,zK,0,zE,zP⟩:Ap)⟨w,zK,0,zE,zP⟩=true:=KF rfl
 rcases hw with rfl|rfl|rfl
 ·have hn:=(Cn⟨1,by decide⟩(by decide)).1
  refine(congrArg(fun x:Option AN=>x.bind _)hn).trans ?_
  refine(congrArg(fun x:Option(AN×Bool)=>x.bind _)(JR⟨1,K,0,zE,zP⟩)).trans ?_
  exact congrArg some hc
 ·have hn:=(Cn⟨5,by decide⟩(by decide)).1
  refine(congrArg(fun x:Option AN=>x.bind _)hn).trans ?_
  refine(congrArg(fun x:Option(AN×Bool)=>x.bind _)(JR⟨5,K,0,zE,zP⟩)).trans ?_
  exact congrArg some hc
 ·have hn:=(Cn⟨8,by decide⟩(by decide)).1
  refine(congrArg(fun x:Option AN=>x.bind _)hn).trans ?_
  refine(congrArg(fun x:Option(AN×Bool)=>x.bind _)(JR⟨8,K,0,zE,zP⟩)).trans ?_
  exact congrArg some hc
theorem He{n lo hi:UInt64}(h1:lo.toNat≤n.toNat)(h2:n.toNat≤hi.toNat):D1(decide((lo.toNat:Int)≤(n.toNat:Int)))(some(decide((n.toNat:Int)≤(hi.toNat:Int))))=some true:=by
 rw[decide_eq_true(Int.ofNat_le.2 h1),decide_eq_true(Int.ofNat_le.2 h2)];rfl
theorem sD{w:Int}{n:UInt64}(hw:w=2∨w=3∨w=10∨w=13∨w=14∨w=15∨w=16)(h1:yQ w≤n.toNat)(h2:n.toNat≤mostF w):Gk⟨w,zK,n,zE,zP⟩=some true:=by
 have hc:HN CI(⟨w,zK,0,zE,zP⟩:Ap)⟨w,zK,0,zE,zP⟩=true:=KF rfl
 have hd:=Ju n
 rcases hw with rfl|rfl|rfl|rfl|rfl|rfl|rfl
 ·refine(congrArg(fun x:Option AN=>x.bind _)(Cn⟨2,by decide⟩(by decide)).1).trans ?_
  refine(congrArg(fun x:Option AN=>(x.bind _).bind _)hd).trans ?_
  refine(congrArg(fun x:Option Bool=>(x.bind fun y=>some(Dz n.toNat,y)).bind _)(He(n:=n)(lo:=0)(hi:=65535)h1 h2)).trans ?_
  exact congrArg some hc
 ·refine(congrArg(fun x:Option AN=>x.bind _)(Cn⟨3,by decide⟩(by decide)).1).trans ?_
  refine(congrArg(fun x:Option AN=>(x.bind _).bind _)hd).trans ?_
  refine(congrArg(fun x:Option Bool=>(x.bind fun y=>some(Dz n.toNat,y)).bind _)(He(n:=n)(lo:=0)(hi:=4294967295)h1 h2)).trans ?_
  exact congrArg some hc
 ·refine(congrArg(fun x:Option AN=>x.bind _)(Cn⟨10,by decide⟩(by decide)).1).trans ?_
  refine(congrArg(fun x:Option AN=>(x.bind _).bind _)hd).trans ?_
  refine(congrArg(fun x:Option Bool=>(x.bind fun y=>some(Dz n.toNat,y)).bind _)(He(n:=n)(lo:=0)(hi:=65535)h1 h2)).trans ?_
  exact congrArg some hc
 ·refine(congrArg(fun x:Option AN=>x.bind _)(Cn⟨13,by decide⟩(by decide)).1).trans ?_
  refine(congrArg(fun x:Option AN=>(x.bind _).bind _)hd).trans ?_
  refine(congrArg(fun x:Option Bool=>(x.bind fun y=>some(Dz n.toNat,y)).bind _)(He(n:=n)(lo:=1)(hi:=1)h1 h2)).trans ?_
  exact congrArg some hc
 ·refine(congrArg(fun x:Option AN=>x.bind _)(Cn⟨14,by decide⟩(by decide)).1).trans ?_
  refine(congrArg(fun x:Option AN=>(x.bind _).bind _)hd).trans ?_
  refine(congrArg(fun x:Option Bool=>(x.bind fun y=>some(Dz n.toNat,y)).bind _)(He(n:=n)(lo:=0)(hi:=18446744073709551615)h1 h2)).trans ?_
  exact congrArg some hc
 ·refine(congrArg(fun x:Option AN=>x.bind _)(Cn⟨15,by decide⟩(by decide)).1).trans ?_
  refine(congrArg(fun x:Option AN=>(x.bind _).bind _)hd).trans ?_
  refine(congrArg(fun x:Option Bool=>(x.bind fun y=>some(Dz n.toNat,y)).bind _)(He(n:=n)(lo:=0)(hi:=18446744073709551615)h1 h2)).trans ?_
  exact congrArg some hc
 ·refine(congrArg(fun x:Option AN=>x.bind _)(Cn⟨16,by decide⟩(by decide)).1).trans ?_
  refine(congrArg(fun x:Option AN=>(x.bind _).bind _)hd).trans ?_
  refine(congrArg(fun x:Option Bool=>(x.bind fun y=>some(Dz n.toNat,y)).bind _)(He(n:=n)(lo:=0)(hi:=20)h1 h2)).trans ?_
  exact congrArg some hc
theorem mF{e:AF}(h:Gu e=true):Gk⟨9,zK,0,e,zP⟩=some true:=by
 have hc:HN CI(⟨9,zK,0,zE,zP⟩:Ap)⟨9,zK,0,zE,zP⟩=true:=KF rfl
 have h2:=XN⟨9,zK,0,e,zP⟩
 dsimp only at h2
 rw[h]at h2
 refine(congrArg(fun x:Option AN=>x.bind _)(Cn⟨9,by decide⟩(by decide)).1).trans ?_
 refine(congrArg(fun x:Option(AN×Bool)=>x.bind _)h2).trans ?_
 exact congrArg some hc
theorem sC{p:Aq}(h:Hh p=true):Gk⟨12,zK,0,zE,p⟩=some true:=by
 have hc:HN CI(⟨12,zK,0,zE,zP⟩:Ap)⟨12,zK,0,zE,zP⟩=true:=KF rfl
 have h2:=Tv⟨12,zK,0,zE,p⟩
 dsimp only at h2
 rw[h]at h2
 refine(congrArg(fun x:Option AN=>x.bind _)(Cn⟨12,by decide⟩(by decide)).1).trans ?_
 refine(congrArg(fun x:Option(AN×Bool)=>x.bind _)h2).trans ?_
 exact congrArg some hc
theorem pair_ok{f:Ap}(h:RS f):FJ f=some(K2 f,0):=by
 cases h with
 | @key w K hw=>
  refine(congrArg(fun x:Option Bool=>x.bind _)(sE(K:=K)hw)).trans ?_
  rcases hw with rfl|rfl|rfl
  ·refine(congrArg(fun x:Option(AN×Bool)=>x.bind _)(JR⟨1,K,0,zE,zP⟩)).trans ?_
   exact congrArg(fun x:Option AN=>x.bind fun y=>some((⟨y,JT K.l⟩:A7),0))(Cn⟨1,by decide⟩(by decide)).1
  ·refine(congrArg(fun x:Option(AN×Bool)=>x.bind _)(JR⟨5,K,0,zE,zP⟩)).trans ?_
   exact congrArg(fun x:Option AN=>x.bind fun y=>some((⟨y,JT K.l⟩:A7),0))(Cn⟨5,by decide⟩(by decide)).1
  ·refine(congrArg(fun x:Option(AN×Bool)=>x.bind _)(JR⟨8,K,0,zE,zP⟩)).trans ?_
   exact congrArg(fun x:Option AN=>x.bind fun y=>some((⟨y,JT K.l⟩:A7),0))(Cn⟨8,by decide⟩(by decide)).1
 | @num w n hw h1 h2=>
  refine(congrArg(fun x:Option Bool=>x.bind _)(sD hw h1 h2)).trans ?_
  have hd:=Ju n
  rcases hw with rfl|rfl|rfl|rfl|rfl|rfl|rfl
  ·refine(congrArg(fun x:Option AN=>(x.bind _).bind _)hd).trans ?_
   refine(congrArg(fun x:Option Bool=>(x.bind fun y=>some(Dz n.toNat,y)).bind _)(He(n:=n)(lo:=0)(hi:=65535)h1 h2)).trans ?_
   exact congrArg(fun x:Option AN=>x.bind fun y=>some((⟨y,Dz n.toNat⟩:A7),0))(Cn⟨2,by decide⟩(by decide)).1
  ·refine(congrArg(fun x:Option AN=>(x.bind _).bind _)hd).trans ?_
   refine(congrArg(fun x:Option Bool=>(x.bind fun y=>some(Dz n.toNat,y)).bind _)(He(n:=n)(lo:=0)(hi:=4294967295)h1 h2)).trans ?_
   exact congrArg(fun x:Option AN=>x.bind fun y=>some((⟨y,Dz n.toNat⟩:A7),0))(Cn⟨3,by decide⟩(by decide)).1
  ·refine(congrArg(fun x:Option AN=>(x.bind _).bind _)hd).trans ?_
   refine(congrArg(fun x:Option Bool=>(x.bind fun y=>some(Dz n.toNat,y)).bind _)(He(n:=n)(lo:=0)(hi:=65535)h1 h2)).trans ?_
   exact congrArg(fun x:Option AN=>x.bind fun y=>some((⟨y,Dz n.toNat⟩:A7),0))(Cn⟨10,by decide⟩(by decide)).1
  ·refine(congrArg(fun x:Option AN=>(x.bind _).bind _)hd).trans ?_
   refine(congrArg(fun x:Option Bool=>(x.bind fun y=>some(Dz n.toNat,y)).bind _)(He(n:=n)(lo:=1)(hi:=1)h1 h2)).trans ?_
   exact congrArg(fun x:Option AN=>x.bind fun y=>some((⟨y,Dz n.toNat⟩:A7),0))(Cn⟨13,by decide⟩(by decide)).1
  ·refine(congrArg(fun x:Option AN=>(x.bind _).bind _)hd).trans ?_
   refine(congrArg(fun x:Option Bool=>(x.bind fun y=>some(Dz n.toNat,y)).bind _)(He(n:=n)(lo:=0)(hi:=18446744073709551615)h1 h2)).trans ?_
   exact congrArg(fun x:Option AN=>x.bind fun y=>some((⟨y,Dz n.toNat⟩:A7),0))(Cn⟨14,by decide⟩(by decide)).1
  ·refine(congrArg(fun x:Option AN=>(x.bind _).bind _)hd).trans ?_
   refine(congrArg(fun x:Option Bool=>(x.bind fun y=>some(Dz n.toNat,y)).bind _)(He(n:=n)(lo:=0)(hi:=18446744073709551615)h1 h2)).trans ?_
   exact congrArg(fun x:Option AN=>x.bind fun y=>some((⟨y,Dz n.toNat⟩:A7),0))(Cn⟨15,by decide⟩(by decide)).1
  ·refine(congrArg(fun x:Option AN=>(x.bind _).bind _)hd).trans ?_
   refine(congrArg(fun x:Option Bool=>(x.bind fun y=>some(Dz n.toNat,y)).bind _)(He(n:=n)(lo:=0)(hi:=20)h1 h2)).trans ?_
   exact congrArg(fun x:Option AN=>x.bind fun y=>some((⟨y,Dz n.toNat⟩:A7),0))(Cn⟨16,by decide⟩(by decide)).1
 | @host e h=>
  refine(congrArg(fun x:Option Bool=>x.bind _)(mF h)).trans ?_
  refine(congrArg(fun x:Option(AN×Bool)=>x.bind _)(XN⟨9,zK,0,e,zP⟩)).trans ?_
  exact congrArg(fun x:Option AN=>x.bind fun y=>some((⟨y,N1 e⟩:A7),0))(Cn⟨9,by decide⟩(by decide)).1
 | @pre p h=>
  refine(congrArg(fun x:Option Bool=>x.bind _)(sC h)).trans ?_
  refine(congrArg(fun x:Option(AN×Bool)=>x.bind _)(Tv⟨12,zK,0,zE,p⟩)).trans ?_
  exact congrArg(fun x:Option AN=>x.bind fun y=>some((⟨y,N8 p⟩:A7),0))(Cn⟨12,by decide⟩(by decide)).1
theorem GG(w:Fin 17)(hw:1≤w.1){γ:Type}{K:AN→Option γ}:((Qf()).bind fun x6=>(Fv x6.l(w.1:Int)).bind K)=K(Rb w.1):=by
 have h:=(Cn w hw).2.2.2.2.2
 obtain⟨g,hg,h⟩:=Option.bind_eq_some_iff.1 h
 rw[hg,Option.bind_some,h,Option.bind_some]
theorem wE{f:Ap}(h:RS f):WW f=some⟨(K2 f).Key,(K2 f).Value⟩:=by
 cases h with
 | @key w K hw=>
  have he:((Nq K).bind fun x13=>(LJ x13).bind fun x14=>some(.inl x14:AN⊕Bn))=some(.inl(JT K.l)):=by
   rw[sI,Option.bind_some,mI _(by simp[K.len])];rfl
  rcases hw with rfl|rfl|rfl
  ·refine(congrArg(fun x:Option(AN⊕Bn)=>x.bind _)he).trans ?_
   exact GG(K:=fun y=>some(⟨y,JT K.l⟩:Bn))⟨1,by decide⟩(by decide)
  ·refine(congrArg(fun x:Option(AN⊕Bn)=>x.bind _)he).trans ?_
   exact GG(K:=fun y=>some(⟨y,JT K.l⟩:Bn))⟨5,by decide⟩(by decide)
  ·refine(congrArg(fun x:Option(AN⊕Bn)=>x.bind _)he).trans ?_
   exact GG(K:=fun y=>some(⟨y,JT K.l⟩:Bn))⟨8,by decide⟩(by decide)
 | @num w n hw h1 h2=>
  have he:((FT n).bind fun x27=>some(.inl x27:AN⊕Bn))=some(.inl(Dz n.toNat)):=by rw[S5];rfl
  rcases hw with rfl|rfl|rfl|rfl|rfl|rfl|rfl
  ·refine(congrArg(fun x:Option(AN⊕Bn)=>x.bind _)he).trans ?_
   exact GG(K:=fun y=>some(⟨y,Dz n.toNat⟩:Bn))⟨2,by decide⟩(by decide)
  ·refine(congrArg(fun x:Option(AN⊕Bn)=>x.bind _)he).trans ?_
   exact GG(K:=fun y=>some(⟨y,Dz n.toNat⟩:Bn))⟨3,by decide⟩(by decide)
  ·refine(congrArg(fun x:Option(AN⊕Bn)=>x.bind _)he).trans ?_
   exact GG(K:=fun y=>some(⟨y,Dz n.toNat⟩:Bn))⟨10,by decide⟩(by decide)
  ·refine(congrArg(fun x:Option(AN⊕Bn)=>x.bind _)he).trans ?_
   exact GG(K:=fun y=>some(⟨y,Dz n.toNat⟩:Bn))⟨13,by decide⟩(by decide)
  ·refine(congrArg(fun x:Option(AN⊕Bn)=>x.bind _)he).trans ?_
   exact GG(K:=fun y=>some(⟨y,Dz n.toNat⟩:Bn))⟨14,by decide⟩(by decide)
  ·refine(congrArg(fun x:Option(AN⊕Bn)=>x.bind _)he).trans ?_
   exact GG(K:=fun y=>some(⟨y,Dz n.toNat⟩:Bn))⟨15,by decide⟩(by decide)
  ·refine(congrArg(fun x:Option(AN⊕Bn)=>x.bind _)he).trans ?_
   exact GG(K:=fun y=>some(⟨y,Dz n.toNat⟩:Bn))⟨16,by decide⟩(by decide)
 | @host e h=>
  have he:((P4 e).bind fun x27=>some(.inl x27:AN⊕Bn))=some(.inl(N1 e)):=by rw[wF];rfl
  refine(congrArg(fun x:Option(AN⊕Bn)=>x.bind _)he).trans ?_
  exact GG(K:=fun y=>some(⟨y,N1 e⟩:Bn))⟨9,by decide⟩(by decide)
 | @pre p h=>
  have he:((P5 p).bind fun x27=>some(.inl x27:AN⊕Bn))=some(.inl(N8 p)):=by rw[wG];rfl
  refine(congrArg(fun x:Option(AN⊕Bn)=>x.bind _)he).trans ?_
  exact GG(K:=fun y=>some(⟨y,N8 p⟩:Bn))⟨12,by decide⟩(by decide)
theorem vB(f:Ap):(rR f).length≤130:=by
 unfold rR
 split
 ·rw[SL,f.Key.len];omega
 ·split
  ·exact tR _
  ·split
   ·exact uN _
   ·have:=Hr f.N.toNat;omega
theorem valF_ne(f:Ap):(10:UInt8)∉rR f:=by
 unfold rR
 split
 ·exact hexL_ne _
 ·split
  ·exact zA _
  ·split
   ·exact Aa6 _
   ·exact Td _
theorem RS.word{f:Ap}(h:RS f): ∃w:Fin 17,1≤w.1∧f.Word=(w.1:Int):=by
 cases h with
 |key hw=>exact hw.elim(fun e=>⟨1,by decide,e⟩)(fun h=>h.elim(fun e=>⟨5,by decide,e⟩)(fun e=>⟨8,by decide,e⟩))
 |num hw _ _=>exact hw.elim(fun e=>⟨2,by decide,e⟩)(fun h=>h.elim(fun e=>⟨3,by decide,e⟩)(fun h=>h.elim(fun e=>⟨10,by decide,e⟩)(fun h=>h.elim(fun e=>⟨13,by decide,e⟩)(fun h=>h.elim(fun e=>⟨14,by decide,e⟩)(fun h=>h.elim(fun e=>⟨15,by decide,e⟩)(fun e=>⟨16,by decide,e⟩))))))
 |host _=>exact⟨9,by decide,rfl⟩
 |pre _=>exact⟨12,by decide,rfl⟩
theorem Sp{f:Ap}(h:RS f):AaP(GI(K2 f))(K2 f).Key(K2 f).Value:=by
 obtain⟨w,h1,h2⟩:=h.word
 obtain⟨_,n1,n2,n3,n4,_⟩:=Cn w h1
 have hk:(K2 f).Key=Rb w.1:=by show Rb f.Word.toNat=_;rw[h2];rfl
 have hv:=vB f
 have hn:=valF_ne f
 have hval:(K2 f).Value=rR f:=rfl
 refine⟨rfl,by rw[hk];exact n2,by rw[hk];exact n1,?_,?_⟩
 ·unfold GI
  rw[hk,hval]
  simp only[List.mem_append,List.mem_cons,not_or]
  exact⟨n3,by decide,hn⟩
 ·unfold GI
  rw[hk,hval]
  simp only[List.length_append,List.length_cons]
  omega
theorem Sw{f:Ap}(h:RS f):El f=some(GI(K2 f)++[10]):=by
 have s:=Sp h
 unfold El
 have hle:=s.2.2.2.2
 unfold GI at hle
 simp only[List.length_append,List.length_cons]at hle
 rw[wE h,Option.bind_some,cP _ _(by omega)(by omega),fT s,Option.bind_some]
 dsimp only
 rw[if_pos(by simp only[List.length_append,List.length_cons,List.length_nil];unfold Bf;omega)]
 rfl
end Go.Proofs.YtobejhpigbllpaaGreatDoor.Am
namespace Go.Proofs.YtobejhpigbllpaaGreatDoor.Am
open Classical
theorem cmpK(x y:Ar UInt8 32):HN(Hy 32 CW.u8)x y=decide(x=y):=
 if h:x=y then(KF(t:=Ay 32 T.u8)h).trans(decide_eq_true h).symm else(Wk(t:=Ay 32 T.u8)h).trans(decide_eq_false h).symm
theorem eqK'(x y:Ar UInt8 32):N6 x y=true↔x=y:=by
 unfold N6;rw[cmpK,decide_eq_true_iff]
theorem eqP'(x y:Aq):GU x y=true↔x=y:=by
 unfold GU;simp only[uK,decide_eq_true_iff]
def tm{κ:Type}(l:List κ):List(κ×Bool):=l.map fun k=>(k,true)
theorem dA{κ:Type}{e:κ→κ→Bool}(he: ∀x y,e x y=true↔x=y){k:κ}: ∀{l:List κ},k∈l→(SA e(tm l)k).getD false=true
 |x::l,hm=>by
  simp only[tm,List.map_cons,SA]
  by_cases h:k=x
  ·rw[(he k x).2 h];rfl
  ·have:e k x=false:=by simpa using fun g=>h((he k x).1 g)
   rw[this,cond_false]
   exact dA he((List.mem_cons.1 hm).resolve_left h)
theorem Xg{κ:Type}{e:κ→κ→Bool}(he: ∀x y,e x y=true↔x=y){k:κ}: ∀{l:List κ},k∉l→(SA e(tm l)k).getD false=false
 |[],_=>rfl
 |x::l,hm=>by
  simp only[tm,List.map_cons,SA]
  have h: ¬k=x:=fun e=>hm(by simp[e])
  have:e k x=false:=by simpa using fun g=>h((he k x).1 g)
  rw[this,cond_false]
  exact Xg he fun g=>hm(by simp[g])
theorem cZ{κ:Type}{e:κ→κ→Bool}(he: ∀x y,e x y=true↔x=y){k:κ}: ∀{l:List κ},k∉l→S9 e(tm l)k true=tm(l++[k])
 |[],_=>rfl
 |x::l,hm=>by
  simp only[tm,List.map_cons,List.cons_append,S9]
  have h: ¬k=x:=fun e=>hm(by simp[e])
  have:e k x=false:=by simpa using fun g=>h((he k x).1 g)
  rw[this,cond_false]
  exact congrArg(fun r=>(x,true)::r)(cZ he fun g=>hm(by simp[g]))
theorem tm_len{κ:Type}(l:List κ):(tm l).length=l.length:=by simp[tm]
def QF(l:List Aq)(i:Nat):Prop:= ∃p,l[i]? =some p∧Hh p=true∧(0<i→ ∃q,l[i-1]? =some q∧UL q p=true)
def R5(l:List Aq):Prop:= ∀i,i<l.length→QF l i
theorem TY{l:List Aq}{i:Nat}(hi:i<l.length)(hl:l.length<4611686018427387904){f:Aq→Option Bool}{g:Aq→Aq→Option Bool}(hf: ∀p,f p=some(Hh p))(hg: ∀p q,g p q=some(UL p q)):
  ((f l[i]).bind fun x10=>(Ig(!x10)((D1(decide(0<(i:Int)))((Fv l(IntKind.i64.wrap((i:Int)-1))).bind fun x14=>(g x14 l[i]).bind fun x17=>some(!x17))).bind fun x19=>some x19)))=some(!decide(QF l i)):=by
 rw[hf]
 simp only[Option.bind_some]
 cases hr:Hh l[i]with
 |false=>
  have: ¬QF l i:=by
   rintro⟨p,hp,h,_⟩
   rw[List.getElem?_eq_getElem hi]at hp
   cases hp
   rw[hr]at h;cases h
  simp[Ig,this]
 |true=>
  simp only[Bool.not_true,Ig,Bool.false_eq_true,if_false]
  by_cases h0:0<i
  ·have hw:IntKind.i64.wrap((i:Int)-1)=((i-1:Nat):Int):=by rw[QQ(by omega)(by omega)];omega
   rw[decide_eq_true(show(0:Int)<(i:Int)by omega),hw,BF,List.getElem?_eq_getElem(show i-1<l.length by omega)]
   simp only[D1,if_true,Option.bind_some,hg]
   congr 1
   have:QF l i↔UL l[i-1]l[i]=true:=by
    constructor
    ·rintro⟨p,hp,_,h⟩
     rw[List.getElem?_eq_getElem hi]at hp;cases hp
     obtain⟨q,hq,h⟩:=h h0
     rw[List.getElem?_eq_getElem(show i-1<l.length by omega)]at hq;cases hq
     exact h
    ·intro h
     exact⟨_,List.getElem?_eq_getElem hi,hr,fun _=>⟨_,List.getElem?_eq_getElem(show i-1<l.length by omega),h⟩⟩
   by_cases h:QF l i
   ·rw[this.1 h];simp[h]
   ·have h':UL l[i-1]l[i]=false:=by simpa using fun g=>h(this.2 g)
    rw[h'];simp[h]
  ·have:QF l i:=⟨_,List.getElem?_eq_getElem hi,hr,fun g=>absurd g h0⟩
   rw[decide_eq_false(show¬(0:Int)<(i:Int)by omega)]
   simp[D1,this]
theorem mE(g:GS Aq)(hl:g.l.length<4611686018427387904):Mc g=some(decide(R5 g.l)):=by
 unfold Mc
 refine(pP(k:=0)(n:=g.l.length)(fun i=>if QF g.l i then none else some false)(by omega)hl ?_ ?_).trans ?_
 rotate_left 2
 ·cases e:(List.range' 0(g.l.length-0)).findSome?(fun i=>if QF g.l i then none else some false)with
  |none=>
   simp only[Sum.elim_inl]
   have:R5 g.l:=fun i hi=>by
    have:=List.findSome?_eq_none_iff.1 e i(by rw[List.mem_range'_1];omega)
    by_cases h:QF g.l i
    ·exact h
    ·simp[h]at this
   rw[decide_eq_true this]
  |some b=>
   obtain⟨i,hi,h'⟩:=List.exists_of_findSome?_eq_some e
   rw[List.mem_range'_1]at hi
   by_cases h:QF g.l i
   ·simp[h]at h'
   ·simp only[h,if_false,Option.some.injEq]at h'
    subst h'
    have: ¬R5 g.l:=fun r=>h(r i(by omega))
    rw[decide_eq_false this];rfl
 ·intro i _ hi
  rw[if_pos(by simpa using hi),BF,List.getElem?_eq_getElem hi]
  have ht:=TY hi hl(f:=II)(g:=N7)Ox uM
  simp only[Option.bind_some]
  rw[Ox]at ht ⊢
  simp only[Option.bind_some]at ht ⊢
  rw[ht]
  by_cases h:QF g.l i<;>simp[h]
 ·rw[if_neg(by simp)]
def pG:Ar UInt8 32:=⟨[0,0,0,0,0,0,0,0,0,0,0,0,0,0,0,0,0,0,0,0,0,0,0,0,0,0,0,0,0,0,0,0],rfl⟩
def noE:AF:=⟨Ak.z,0⟩
def Nj(n:Int):Prop:=0≤n∧n≤65535
theorem rY(n:Int):JH n=some(decide(Nj n)):=by
 unfold JH Nj
 by_cases h:0≤n<;>simp[D1,h]
theorem zQ(n:Int):P3 n=some(decide(Nj n)):=by
 unfold P3 Nj
 by_cases h:0≤n<;>simp[D1,h]
def Ra(e:AF):Prop:=e=noE∨Gu e=true
def P9(p:Bb):Prop:=Nj p.Keep∧Ra p.End∧R5 p.Allowed.l
def Hi(l:List Bb):List(Ar UInt8 32):=pG::l.map(·.Key)
def ER(l:List Bb):List Aq:=l.flatMap(·.Allowed.l)
def MZ(l:List Bb):Prop:=(∀p∈l,P9 p)∧(Hi l).Nodup∧(ER l).Nodup
def IG(c:B6):Prop:=Nj c.Port∧c.Peers.l.length≤16∧MZ c.Peers.l∧(ER c.Peers.l).length≤64
def Rx(c:B6):Prop:=c.Peers.l.length≤20∧ ∀p∈c.Peers.l,p.Allowed.l.length≤80
theorem UN(l:List Bb)(p:Bb):Hi(l++[p])=Hi l++[p.Key]:=by simp[Hi]
theorem R6(l:List Bb)(p:Bb):ER(l++[p])=ER l++p.Allowed.l:=by simp[ER]
theorem LM{α:Type}{l:List α}{x:α}:(l++[x]).Nodup↔l.Nodup∧x∉l:=by
 rw[List.nodup_append]
 constructor
 ·rintro⟨h1,_,h3⟩;exact⟨h1,fun h=>h3 x h x(by simp)rfl⟩
 ·rintro⟨h1,h2⟩
  refine⟨h1,by simp,fun a ha b hb e=> ?_⟩
  simp only[List.mem_singleton]at hb
  subst hb;subst e;exact h2 ha
theorem aY(l:List Bb)(p:Bb):MZ(l++[p])↔MZ l∧P9 p∧p.Key∉Hi l∧(ER l++p.Allowed.l).Nodup:=by
 unfold MZ
 rw[UN,R6,LM]
 constructor
 ·rintro⟨h1,⟨h2,h3⟩,h4⟩
  exact⟨⟨fun q hq=>h1 q(by simp[hq]),h2,(List.nodup_append.1 h4).1⟩,h1 p(by simp),h3,h4⟩
 ·rintro⟨⟨h1,h2,_⟩,h3,h4,h5⟩
  refine⟨fun q hq=> ?_,⟨h2,h4⟩,h5⟩
  rcases List.mem_append.1 hq with hq|hq
  ·exact h1 q hq
  ·rw[List.mem_singleton.1 hq];exact h3
theorem MZ.take{l:List Bb}(h:MZ l)(n:Nat):MZ(l.take n):=by
 have e:l=l.take n++l.drop n:=(List.take_append_drop n l).symm
 unfold MZ at h ⊢
 refine⟨fun p hp=>h.1 p(List.mem_of_mem_take hp),?_,?_⟩
 ·have:=h.2.1
  rw[e]at this
  simp only[Hi,List.map_append,List.nodup_cons,List.mem_append,not_or,List.nodup_append]at this ⊢
  exact⟨this.1.1,this.2.1⟩
 ·have:=h.2.2
  rw[e]at this
  simp only[ER,List.flatMap_append]at this
  exact(List.nodup_append.1 this).1
theorem hU{ρ:Type}{F:Int×List(Aq×Bool)→Option((Int×List(Aq×Bool))⊕(List(Aq×Bool)⊕ρ))}(l:List Aq)(bad:ρ)
  (hF: ∀(k:Nat)(m:List(Aq×Bool))(h:k<l.length),F((k:Int),m)=if(SA GU m l[k]).getD false=true then some(.inr(.inr bad))else some(.inl(((k+1:Nat):Int),S9 GU m l[k]true)))
  (hE: ∀m,F((l.length:Int),m)=some(.inr(.inl m)))(o:List Aq)(ho:o.Nodup):iter F(0,tm o)=some(if(o++l).Nodup then .inl(tm(o++l))else .inr bad):=by
 refine jJ(fun s:Int×List(Aq×Bool)=>l.length-s.1.toNat)(fun s:Int×List(Aq×Bool)=> ∃k:Nat,s.1=(k:Int)∧k≤l.length∧s.2=tm(o++l.take k)∧(o++l.take k).Nodup) ?_⟨0,rfl,by omega,by simp,by simpa using ho⟩
 rintro⟨s,m⟩⟨k,rfl,h1,h2,h3⟩
 dsimp only at h2 ⊢
 subst h2
 by_cases hk:k<l.length
 ·rw[hF k _ hk]
  have ht:l.take(k+1)=l.take k++[l[k]]:=List.take_succ_eq_append_getElem hk
  by_cases hm:l[k]∈o++l.take k
  ·right
   rw[if_pos(dA eqP' hm),if_neg]
   intro hn
   have e:o++l=(o++l.take k++[l[k]])++l.drop(k+1):=by
    rw[List.append_assoc o,←ht,List.append_assoc,List.take_append_drop]
   rw[e]at hn
   exact(LM.1(List.nodup_append.1 hn).1).2 hm
  ·left
   rw[if_neg(by rw[Xg eqP' hm];simp),cZ eqP' hm]
   refine⟨_,rfl,⟨k+1,rfl,by omega,?_,?_⟩,by dsimp only;omega⟩
   ·rw[ht,List.append_assoc]
   ·rw[ht,←List.append_assoc,LM];exact⟨h3,hm⟩
 ·obtain rfl:k=l.length:=by omega
  right
  rw[hE]
  rw[List.take_length]at h3 ⊢
  rw[if_pos h3]
theorem lX(c:B6)(hs:Rx c):JI c=some(decide(IG c)):=by
 have hlen:=hs.1
 unfold JI
 simp only[rY,Option.bind_some]
 by_cases hp:Nj c.Port
 rotate_left
 ·have: ¬IG c:=fun h=>hp h.1
  simp[Ig,hp,this]
 by_cases h16:16<c.Peers.l.length
 ·have: ¬IG c:=fun h=>by have:=h.2.1;omega
  have hd:decide(16<(c.Peers.l.length:Int))=true:=decide_eq_true(by omega)
  simp[Ig,hp,this,hd]
 have hd:decide(16<(c.Peers.l.length:Int))=false:=decide_eq_false(by omega)
 have h0:S9 N6([]:List((Ar UInt8 32)×Bool))(⟨[0,0,0,0,0,0,0,0,0,0,0,0,0,0,0,0,0,0,0,0,0,0,0,0,0,0,0,0,0,0,0,0],rfl⟩:(Ar UInt8 32))true=tm(Hi []):=rfl
 simp only[Ig,hp,hd,decide_true,Bool.not_true,Bool.false_eq_true,if_false,Option.bind_some,h0]
 refine Cg(fun s=>c.Peers.l.length-s.1.toNat)(fun s=> ∃n:Nat,s.1=(n:Int)∧n≤c.Peers.l.length∧s.2.1=tm(Hi(c.Peers.l.take n))∧s.2.2=tm(ER(c.Peers.l.take n))∧MZ(c.Peers.l.take n))
  (fun r=>(r= .inl(tm(ER c.Peers.l))∧MZ c.Peers.l)∨(r= .inr false∧ ¬MZ c.Peers.l))⟨0,rfl,by omega,rfl,rfl,by simp[MZ,Hi,ER]⟩ ?_ ?_
 ·rintro⟨s,km,om⟩⟨n,rfl,h1,h2,h3,h4⟩
  dsimp only at h2 h3 ⊢
  subst h2 h3
  by_cases hn:n<c.Peers.l.length
  ·have hall:=hs.2 _(List.getElem_mem hn)
   have ht:c.Peers.l.take(n+1)=c.Peers.l.take n++[c.Peers.l[n]]:=List.take_succ_eq_append_getElem hn
   have hg:=aY(c.Peers.l.take n)c.Peers.l[n]
   rw[←ht]at hg
   have bad: ¬(P9 c.Peers.l[n]∧c.Peers.l[n].Key∉Hi(c.Peers.l.take n)∧(ER(c.Peers.l.take n)++c.Peers.l[n].Allowed.l).Nodup)→ ¬MZ c.Peers.l:=fun hb hG=>hb(hg.1(hG.take(n+1))).2
   rw[if_pos(by simpa using hn),BF,List.getElem?_eq_getElem hn]
   simp only[Option.bind_some]
   by_cases hk:c.Peers.l[n].Key∈Hi(c.Peers.l.take n)
   ·right
    refine⟨.inr false,?_, .inr⟨rfl,bad fun h=>h.2.1 hk⟩⟩
    rw[dA eqK' hk]
    rfl
   rw[Xg eqK' hk]
   by_cases hkeep:Nj c.Peers.l[n].Keep
   rotate_left
   ·right
    refine⟨.inr false,?_, .inr⟨rfl,bad fun h=>hkeep h.1.1⟩⟩
    rw[decide_eq_false hkeep]
    rfl
   rw[decide_eq_true hkeep]
   simp only[Bool.not_true,Bool.false_eq_true,if_false,Option.bind_some]
   rw[mE _(by omega)]
   by_cases hris:R5 c.Peers.l[n].Allowed.l
   rotate_left
   ·right
    refine⟨.inr false,?_, .inr⟨rfl,bad fun h=>hris h.1.2.2⟩⟩
    rw[decide_eq_false hris]
    rfl
   rw[decide_eq_true hris]
   have hend:((F6 c.Peers.l[n].End).bind fun x30=>(D1(!x30)((Ep c.Peers.l[n].End).bind fun x33=>some(!x33))))=some(!decide(Ra c.Peers.l[n].End)):=by
    rw[ZS,RF]
    simp only[Option.bind_some]
    by_cases e:c.Peers.l[n].End=⟨Ak.z,0⟩
    ·have:Ra c.Peers.l[n].End:= .inl e
     simp[D1,e,this]
     exact .inl rfl
    ·have:Ra c.Peers.l[n].End↔Gu c.Peers.l[n].End=true:=⟨fun h=>h.resolve_left e, .inr⟩
     cases hr:Gu c.Peers.l[n].End with
     |true=>simp[D1,e,this,hr]
     |false=>simp[D1,e,this,hr]
   have hend': ∀{γ:Type}(K:Bool→Option γ),((F6 c.Peers.l[n].End).bind fun x30=>(D1(!x30)((Ep c.Peers.l[n].End).bind fun x33=>some(!x33))).bind K)=K(!decide(Ra c.Peers.l[n].End)):=fun K=>by
    have:=congrArg(fun x=>x.bind K)hend
    simpa only[Option.bind_assoc,Option.bind_some]using this
   simp only[Bool.not_true,Bool.false_eq_true,if_false,Option.bind_some]
   rw[hend']
   by_cases hE:Ra c.Peers.l[n].End
   rotate_left
   ·right
    refine⟨.inr false,?_, .inr⟨rfl,bad fun h=>hE h.1.2.1⟩⟩
    rw[decide_eq_false hE]
    rfl
   rw[decide_eq_true hE]
   simp only[Bool.not_true,Bool.false_eq_true,if_false]
   have hw1:IntKind.i64.wrap((n:Int)+1)=((n+1:Nat):Int):=by rw[show(n:Int)+1=((n+1:Nat):Int)by omega,B1(by omega)]
   by_cases hN:(ER(c.Peers.l.take n)++c.Peers.l[n].Allowed.l).Nodup
   ·left
    refine⟨(((n+1:Nat):Int),tm(Hi(c.Peers.l.take(n+1))),tm(ER(c.Peers.l.take(n+1)))),?_,⟨n+1,rfl,by omega,rfl,rfl,hg.2⟨h4,⟨hkeep,hE,hris⟩,hk,hN⟩⟩,by dsimp only;omega⟩
    refine(congrArg(fun x=>Option.bind x _)(hU c.Peers.l[n].Allowed.l(.inr(.inr false)) ?_ ?_(ER(c.Peers.l.take n))h4.2.2)).trans ?_
    ·intro k m h
     dsimp only
     rw[if_pos(by simpa using h),BF,List.getElem?_eq_getElem h,show(k:Int)+1=((k+1:Nat):Int)by omega,B1(by omega)]
     rfl
    ·intro m
     dsimp only
     rw[if_neg(by simp)]
    ·rw[if_pos hN,hw1,cZ eqK' hk,ht,UN,R6]
     rfl
   ·right
    refine⟨.inr false,?_, .inr⟨rfl,bad fun h=>hN h.2.2⟩⟩
    refine(congrArg(fun x=>Option.bind x _)(hU c.Peers.l[n].Allowed.l(.inr(.inr false)) ?_ ?_(ER(c.Peers.l.take n))h4.2.2)).trans ?_
    ·intro k m h
     dsimp only
     rw[if_pos(by simpa using h),BF,List.getElem?_eq_getElem h,show(k:Int)+1=((k+1:Nat):Int)by omega,B1(by omega)]
     rfl
    ·intro m
     dsimp only
     rw[if_neg(by simp)]
    ·rw[if_neg hN]
     rfl
  ·obtain rfl:n=c.Peers.l.length:=by omega
   right
   rw[if_neg(by simp)]
   rw[List.take_length]at h4 ⊢
   exact⟨_,rfl, .inl⟨rfl,h4⟩⟩
 ·rintro _(⟨rfl,hG⟩|⟨rfl,hG⟩)
  ·simp only[Sum.elim_inl,tm_len]
   congr 1
   rw[decide_eq_decide]
   constructor
   ·intro h;exact⟨hp,by omega,hG,by omega⟩
   ·intro h;have:=h.2.2.2;omega
  ·have: ¬IG c:=fun h=>hG h.2.2.1
   simp[this]
theorem Sn{α β ρ:Type}{l:List α}{x:α}{F:Int→Option(Int⊕(Unit⊕β))}{K:Unit⊕β→Option ρ}{b:β}(n:Nat)(hn:n≤l.length)(hl:l.length<4611686018427387904)
  (h1: ∀i(h:i<n),(l[i]'(by omega)=x→F(i:Int)=some(.inr(.inr b)))∧(l[i]'(by omega)≠x→F(i:Int)=some(.inl(IntKind.i64.wrap((i:Int)+1)))))(h2:F(n:Int)=some(.inr(.inl()))):
  (x∈l.take n→(iter F 0).bind K=K(.inr b))∧(x∉l.take n→(iter F 0).bind K=K(.inl())):=by
 have key:=pP(F:=F)(K:=K)(k:=0)(n:=n)(fun i=>if l[i]? =some x then some b else none)(by omega)(by omega)(fun i _ hi=>by
  have hil:i<l.length:=by omega
  by_cases e:l[i]=x
  ·rw[(h1 i hi).1 e];simp[List.getElem?_eq_getElem hil,e]
  ·rw[(h1 i hi).2 e];simp[List.getElem?_eq_getElem hil,e])h2
 have key':(iter F 0).bind K=_:=key
 rw[key']
 constructor
 ·intro hx
  cases e:(List.range' 0(n-0)).findSome?(fun i=>if l[i]? =some x then some b else none)with
  |none=>
   obtain⟨i,hi,hg⟩:=List.getElem_of_mem hx
   rw[List.length_take]at hi
   have:=List.findSome?_eq_none_iff.1 e i(by rw[List.mem_range'_1];omega)
   rw[List.getElem_take]at hg
   rw[List.getElem?_eq_getElem(show i<l.length by omega),hg]at this
   simp at this
  |some c=>
   obtain⟨i,hi,h'⟩:=List.exists_of_findSome?_eq_some e
   split at h'
   ·cases h';rfl
   ·cases h'
 ·intro hx
  cases e:(List.range' 0(n-0)).findSome?(fun i=>if l[i]? =some x then some b else none)with
  |none=>rfl
  |some c=>
   obtain⟨i,hi,h'⟩:=List.exists_of_findSome?_eq_some e
   rw[List.mem_range'_1]at hi
   split at h'
   ·rename_i hg
    obtain⟨hlt,hg⟩:=List.getElem?_eq_some_iff.1 hg
    exact absurd(List.mem_take_iff_getElem.2⟨i,by omega,hg⟩)hx
   ·cases h'
theorem So{α β ρ:Type}{l:List α}{x:α}{F:Int→Option(Int⊕(Unit⊕β))}{K:Unit⊕β→Option ρ}{b:β}(hl:l.length<4611686018427387904)
  (h1: ∀i(h:i<l.length),(l[i]=x→F(i:Int)=some(.inr(.inr b)))∧(l[i]≠x→F(i:Int)=some(.inl(IntKind.i64.wrap((i:Int)+1)))))(h2:F(l.length:Int)=some(.inr(.inl()))):
  (x∈l→(iter F 0).bind K=K(.inr b))∧(x∉l→(iter F 0).bind K=K(.inl())):=by
 have:=Sn(l:=l)(x:=x)(K:=K)l.length(Nat.le_refl _)hl h1 h2
 rwa [List.take_length]at this
theorem ZH{ρ:Type}{F:Int×GS Aq→Option((Int×GS Aq)⊕(GS Aq⊕ρ))}(l:List Aq)(bad:ρ)
  (hF: ∀(k:Nat)(m:List Aq)(h:k<l.length),m.length≤1700→F((k:Int),ZW m)=some(if QF l k∧l[k]∉m then .inl(((k+1:Nat):Int),ZW(m++[l[k]]))else .inr(.inr bad)))
  (hE: ∀m,F((l.length:Int),m)=some(.inr(.inl m)))(o:List Aq)(ho:o.Nodup)(hb:o.length+l.length≤1700):iter F(0,ZW o)=some(if R5 l∧(o++l).Nodup then .inl(ZW(o++l))else .inr bad):=by
 refine jJ(fun s=>l.length-s.1.toNat)(fun s=> ∃k:Nat,s.1=(k:Int)∧k≤l.length∧s.2=ZW(o++l.take k)∧(o++l.take k).Nodup∧ ∀i,i<k→QF l i) ?_⟨0,rfl,by omega,by simp,by simpa using ho,fun i hi=>by omega⟩
 rintro⟨s,m⟩⟨k,rfl,h1,h2,h3,h5⟩
 dsimp only at h2 ⊢
 subst h2
 by_cases hk:k<l.length
 ·rw[hF k _ hk(by rw[List.length_append,List.length_take];omega)]
  have ht:l.take(k+1)=l.take k++[l[k]]:=List.take_succ_eq_append_getElem hk
  by_cases hm:QF l k∧l[k]∉o++l.take k
  ·left
   rw[if_pos hm]
   refine⟨_,rfl,⟨k+1,rfl,by omega,?_,?_,?_⟩,by dsimp only;omega⟩
   ·rw[ht,List.append_assoc]
   ·rw[ht,←List.append_assoc,LM];exact⟨h3,hm.2⟩
   ·intro i hi
    rcases Nat.lt_or_ge i k with h|h
    ·exact h5 i h
    ·obtain rfl:i=k:=by omega
     exact hm.1
  ·right
   rw[if_neg hm,if_neg]
   rintro⟨hr,hn⟩
   refine hm⟨hr k hk,fun hin=> ?_⟩
   have e:o++l=(o++l.take k++[l[k]])++l.drop(k+1):=by
    rw[List.append_assoc o,←ht,List.append_assoc,List.take_append_drop]
   rw[e]at hn
   exact(LM.1(List.nodup_append.1 hn).1).2 hin
 ·obtain rfl:k=l.length:=by omega
  right
  rw[hE]
  rw[List.take_length]at h3 ⊢
  rw[if_pos⟨fun i hi=>h5 i hi,h3⟩]
theorem sQ{l:List Bb}{n:Nat}(h: ∀p∈l,p.Allowed.l.length≤n):(ER l).length≤l.length*n:=by
 induction l with
 |nil=>simp[ER]
 |cons p l ih=>
  have h1:=h p(by simp)
  have h2:=ih fun q hq=>h q(by simp[hq])
  simp only[ER,List.flatMap_cons,List.length_append,List.length_cons,Nat.add_mul,Nat.one_mul]at h2 ⊢
  omega
theorem sH(c:B6)(hs:Rx c):Qh c=some(decide(IG c)):=by
 have hlen:=hs.1
 unfold Qh
 simp only[zQ,Option.bind_some]
 by_cases hp:Nj c.Port
 rotate_left
 ·have: ¬IG c:=fun h=>hp h.1
  simp[Ig,hp,this]
 by_cases h16:16<c.Peers.l.length
 ·have: ¬IG c:=fun h=>by have:=h.2.1;omega
  have hd:decide(16<(c.Peers.l.length:Int))=true:=decide_eq_true(by omega)
  simp[Ig,hp,this,hd]
 have hd:decide(16<(c.Peers.l.length:Int))=false:=decide_eq_false(by omega)
 simp only[Ig,hp,hd,decide_true,Bool.not_true,Bool.false_eq_true,if_false,Option.bind_some]
 refine Cg(fun s=>c.Peers.l.length-s.1.toNat)(fun s=> ∃n:Nat,s.1=(n:Int)∧n≤c.Peers.l.length∧s.2=ZW(ER(c.Peers.l.take n))∧MZ(c.Peers.l.take n))
  (fun r=>(r= .inl(ZW(ER c.Peers.l))∧MZ c.Peers.l)∨(r= .inr false∧ ¬MZ c.Peers.l))⟨0,rfl,by omega,rfl,by simp[MZ,Hi,ER]⟩ ?_ ?_
 ·rintro⟨s,om⟩⟨n,rfl,h1,h3,h4⟩
  dsimp only at h3 ⊢
  subst h3
  by_cases hn:n<c.Peers.l.length
  ·have hall:=hs.2 _(List.getElem_mem hn)
   have ht:c.Peers.l.take(n+1)=c.Peers.l.take n++[c.Peers.l[n]]:=List.take_succ_eq_append_getElem hn
   have hg:=aY(c.Peers.l.take n)c.Peers.l[n]
   rw[←ht]at hg
   have bad: ¬(P9 c.Peers.l[n]∧c.Peers.l[n].Key∉Hi(c.Peers.l.take n)∧(ER(c.Peers.l.take n)++c.Peers.l[n].Allowed.l).Nodup)→ ¬MZ c.Peers.l:=fun hb hG=>hb(hg.1(hG.take(n+1))).2
   have hkz:c.Peers.l[n].Key∈Hi(c.Peers.l.take n)↔c.Peers.l[n].Key=pG∨c.Peers.l[n].Key∈(c.Peers.l.take n).map(·.Key):=by simp[Hi]
   have hpl:(ER(c.Peers.l.take n)).length≤1600:=by
    have:=sQ(l:=c.Peers.l.take n)(n:=80)fun p hp=>hs.2 p(List.mem_of_mem_take hp)
    rw[List.length_take]at this
    have h2:min n c.Peers.l.length*80≤20*80:=Nat.mul_le_mul_right _(by omega)
    omega
   have hw1:IntKind.i64.wrap((n:Int)+1)=((n+1:Nat):Int):=by rw[show(n:Int)+1=((n+1:Nat):Int)by omega,B1(by omega)]
   rw[if_pos(by simpa using hn),BF,List.getElem?_eq_getElem hn]
   simp only[Option.bind_some,cmpK]
   have hz:(⟨[0,0,0,0,0,0,0,0,0,0,0,0,0,0,0,0,0,0,0,0,0,0,0,0,0,0,0,0,0,0,0,0],rfl⟩:(Ar UInt8 32))=pG:=rfl
   rw[hz]
   by_cases hk0:c.Peers.l[n].Key=pG
   ·right
    refine⟨.inr false,?_, .inr⟨rfl,bad fun h=>h.2.1(hkz.2(.inl hk0))⟩⟩
    rw[decide_eq_true hk0]
    rfl
   rw[decide_eq_false hk0]
   by_cases hkeep:Nj c.Peers.l[n].Keep
   rotate_left
   ·right
    refine⟨.inr false,?_, .inr⟨rfl,bad fun h=>hkeep h.1.1⟩⟩
    rw[decide_eq_false hkeep]
    rfl
   rw[decide_eq_true hkeep]
   have hend: ∀{γ:Type}(K:Bool→Option γ),((D1(!(HN Cy c.Peers.l[n].End(⟨Ak.z,0⟩:AF)))((L2 c.Peers.l[n].End).bind fun x29=>some(!x29))).bind K)=K(!decide(Ra c.Peers.l[n].End)):=fun K=>by
    simp only[cmpE,ZA,Option.bind_some]
    by_cases e:c.Peers.l[n].End=⟨Ak.z,0⟩
    ·have:Ra c.Peers.l[n].End:= .inl e
     rw[decide_eq_true e,decide_eq_true this];rfl
    ·have:Ra c.Peers.l[n].End↔Gu c.Peers.l[n].End=true:=⟨fun h=>h.resolve_left e, .inr⟩
     rw[decide_eq_false e]
     cases hr:Gu c.Peers.l[n].End with
     |true=>rw[decide_eq_true(this.2 hr)];rfl
     |false=>rw[decide_eq_false(fun h=>by rw[this.1 h]at hr;cases hr)];rfl
   simp only[Bool.not_true,Bool.false_eq_true,if_false,Option.bind_some]
   rw[hend]
   by_cases hE:Ra c.Peers.l[n].End
   rotate_left
   ·right
    refine⟨.inr false,?_, .inr⟨rfl,bad fun h=>hE h.1.2.1⟩⟩
    rw[decide_eq_false hE]
    rfl
   rw[decide_eq_true hE]
   simp only[Bool.not_true,Bool.false_eq_true,if_false,Option.bind_some]
   have hmem:c.Peers.l[n].Key∈(c.Peers.l.map(·.Key)).take n↔c.Peers.l[n].Key∈(c.Peers.l.take n).map(·.Key):=by rw[List.map_take]
   by_cases hk1:c.Peers.l[n].Key∈(c.Peers.l.map(·.Key)).take n
   ·right
    refine⟨.inr false,?_, .inr⟨rfl,bad fun h=>h.2.1(hkz.2(.inr(hmem.1 hk1)))⟩⟩
    refine((Sn(l:=c.Peers.l.map(·.Key))(b:= .inr(.inr false))n(by rw[List.length_map];omega)(by rw[List.length_map];omega) ?_ ?_).1 hk1).trans ?_
    ·intro i hi
     rw[if_pos(by rw[decide_eq_true_eq];omega),BF,List.getElem?_eq_getElem(show i<c.Peers.l.length by omega),List.getElem_map]
     simp only[Option.bind_some]
     exact⟨fun e=>by rw[if_pos(decide_eq_true e)];rfl,fun e=>by rw[if_neg(by rw[decide_eq_false e];simp)]⟩
    ·rw[if_neg(by rw[decide_eq_true_eq];omega)]
    ·rfl
   have hk:c.Peers.l[n].Key∉Hi(c.Peers.l.take n):=fun h=>(hkz.1 h).elim hk0 fun h=>hk1(hmem.2 h)
   by_cases hN:R5 c.Peers.l[n].Allowed.l∧(ER(c.Peers.l.take n)++c.Peers.l[n].Allowed.l).Nodup
   ·left
    refine⟨(((n+1:Nat):Int),ZW(ER(c.Peers.l.take(n+1)))),?_,⟨n+1,rfl,by omega,rfl,hg.2⟨h4,⟨hkeep,hE,hN.1⟩,hk,hN.2⟩⟩,by dsimp only;omega⟩
    refine((Sn(l:=c.Peers.l.map(·.Key))(b:= .inr(.inr false))n(by rw[List.length_map];omega)(by rw[List.length_map];omega) ?_ ?_).2 hk1).trans ?_
    ·intro i hi
     rw[if_pos(by rw[decide_eq_true_eq];omega),BF,List.getElem?_eq_getElem(show i<c.Peers.l.length by omega),List.getElem_map]
     simp only[Option.bind_some]
     exact⟨fun e=>by rw[if_pos(decide_eq_true e)];rfl,fun e=>by rw[if_neg(by rw[decide_eq_false e];simp)]⟩
    ·rw[if_neg(by rw[decide_eq_true_eq];omega)]
    ·dsimp only[Sum.elim_inl]
     refine(congrArg(fun x=>Option.bind x _)(ZH c.Peers.l[n].Allowed.l(.inr(.inr false)) ?_ ?_(ER(c.Peers.l.take n))h4.2.2(by omega))).trans ?_
     ·intro k m h hm
      have hgl:=Rg m
      have htst:=TY h(by omega)(f:=JP)(g:=Nm)Nl gW
      dsimp only
      rw[if_pos(by simpa using h),BF,List.getElem?_eq_getElem h,Option.bind_some]
      simp only[Ig]at htst
      rw[Nl]at htst ⊢
      simp only[Option.bind_some]at htst ⊢
      rw[htst]
      by_cases hok:QF c.Peers.l[n].Allowed.l k
      ·rw[decide_eq_true hok]
       simp only[Option.bind_some,Bool.not_true,Bool.false_eq_true,if_false]
       by_cases hin:c.Peers.l[n].Allowed.l[k]∈m
       ·rw[if_neg(fun h=>h.2 hin)]
        refine((So(l:=m)(x:=c.Peers.l[n].Allowed.l[k])(b:=(Sum.inr(Sum.inr(Sum.inr(Sum.inr false))):(Int×GS Aq)⊕(GS Aq⊕((Int×GS Aq)⊕(GS Aq⊕Bool)))))(by omega) ?_ ?_).1 hin).trans ?_
        skip
        ·intro i hi
         rw[if_pos(by rw[decide_eq_true_eq,hgl];omega),Co(by rw[hgl];exact hi),Option.bind_some,hgl,List.getElem?_eq_getElem hi]
         simp only[Option.map_some,Option.bind_some,uK]
         exact⟨fun e=>by rw[if_pos(decide_eq_true e)],fun e=>by rw[if_neg(by rw[decide_eq_false e];simp)]⟩
        ·rw[if_neg(by rw[decide_eq_true_eq,hgl];omega)]
        ·rfl
       ·rw[if_pos⟨hok,hin⟩]
        refine((So(l:=m)(x:=c.Peers.l[n].Allowed.l[k])(b:=(Sum.inr(Sum.inr(Sum.inr(Sum.inr false))):(Int×GS Aq)⊕(GS Aq⊕((Int×GS Aq)⊕(GS Aq⊕Bool)))))(by omega) ?_ ?_).2 hin).trans ?_
        skip
        ·intro i hi
         rw[if_pos(by rw[decide_eq_true_eq,hgl];omega),Co(by rw[hgl];exact hi),Option.bind_some,hgl,List.getElem?_eq_getElem hi]
         simp only[Option.map_some,Option.bind_some,uK]
         exact⟨fun e=>by rw[if_pos(decide_eq_true e)],fun e=>by rw[if_neg(by rw[decide_eq_false e];simp)]⟩
        ·rw[if_neg(by rw[decide_eq_true_eq,hgl];omega)]
        ·dsimp only[Sum.elim_inl]
         rw[Kt(by rw[hgl];unfold Bf;omega),show(k:Int)+1=((k+1:Nat):Int)by omega,B1(by omega),hgl,PM]
         rfl
      ·rw[decide_eq_false hok,if_neg(fun h=>hok h.1)]
       rfl
     ·intro m
      dsimp only
      rw[if_neg(by simp)]
     ·rw[if_pos hN,hw1,ht,R6]
      rfl
   ·right
    refine⟨.inr false,?_, .inr⟨rfl,bad fun h=>hN⟨h.1.2.2,h.2.2⟩⟩⟩
    refine((Sn(l:=c.Peers.l.map(·.Key))(b:= .inr(.inr false))n(by rw[List.length_map];omega)(by rw[List.length_map];omega) ?_ ?_).2 hk1).trans ?_
    ·intro i hi
     rw[if_pos(by rw[decide_eq_true_eq];omega),BF,List.getElem?_eq_getElem(show i<c.Peers.l.length by omega),List.getElem_map]
     simp only[Option.bind_some]
     exact⟨fun e=>by rw[if_pos(decide_eq_true e)];rfl,fun e=>by rw[if_neg(by rw[decide_eq_false e];simp)]⟩
    ·rw[if_neg(by rw[decide_eq_true_eq];omega)]
    ·dsimp only[Sum.elim_inl]
     refine(congrArg(fun x=>Option.bind x _)(ZH c.Peers.l[n].Allowed.l(.inr(.inr false)) ?_ ?_(ER(c.Peers.l.take n))h4.2.2(by omega))).trans ?_
     ·intro k m h hm
      have hgl:=Rg m
      have htst:=TY h(by omega)(f:=JP)(g:=Nm)Nl gW
      dsimp only
      rw[if_pos(by simpa using h),BF,List.getElem?_eq_getElem h,Option.bind_some]
      simp only[Ig]at htst
      rw[Nl]at htst ⊢
      simp only[Option.bind_some]at htst ⊢
      rw[htst]
      by_cases hok:QF c.Peers.l[n].Allowed.l k
      ·rw[decide_eq_true hok]
       simp only[Option.bind_some,Bool.not_true,Bool.false_eq_true,if_false]
       by_cases hin:c.Peers.l[n].Allowed.l[k]∈m
       ·rw[if_neg(fun h=>h.2 hin)]
        refine((So(l:=m)(x:=c.Peers.l[n].Allowed.l[k])(b:=(Sum.inr(Sum.inr(Sum.inr(Sum.inr false))):(Int×GS Aq)⊕(GS Aq⊕((Int×GS Aq)⊕(GS Aq⊕Bool)))))(by omega) ?_ ?_).1 hin).trans ?_
        skip
        ·intro i hi
         rw[if_pos(by rw[decide_eq_true_eq,hgl];omega),Co(by rw[hgl];exact hi),Option.bind_some,hgl,List.getElem?_eq_getElem hi]
         simp only[Option.map_some,Option.bind_some,uK]
         exact⟨fun e=>by rw[if_pos(decide_eq_true e)],fun e=>by rw[if_neg(by rw[decide_eq_false e];simp)]⟩
        ·rw[if_neg(by rw[decide_eq_true_eq,hgl];omega)]
        ·rfl
       ·rw[if_pos⟨hok,hin⟩]
        refine((So(l:=m)(x:=c.Peers.l[n].Allowed.l[k])(b:=(Sum.inr(Sum.inr(Sum.inr(Sum.inr false))):(Int×GS Aq)⊕(GS Aq⊕((Int×GS Aq)⊕(GS Aq⊕Bool)))))(by omega) ?_ ?_).2 hin).trans ?_
        skip
        ·intro i hi
         rw[if_pos(by rw[decide_eq_true_eq,hgl];omega),Co(by rw[hgl];exact hi),Option.bind_some,hgl,List.getElem?_eq_getElem hi]
         simp only[Option.map_some,Option.bind_some,uK]
         exact⟨fun e=>by rw[if_pos(decide_eq_true e)],fun e=>by rw[if_neg(by rw[decide_eq_false e];simp)]⟩
        ·rw[if_neg(by rw[decide_eq_true_eq,hgl];omega)]
        ·dsimp only[Sum.elim_inl]
         rw[Kt(by rw[hgl];unfold Bf;omega),show(k:Int)+1=((k+1:Nat):Int)by omega,B1(by omega),hgl,PM]
         rfl
      ·rw[decide_eq_false hok,if_neg(fun h=>hok h.1)]
       rfl
     ·intro m
      dsimp only
      rw[if_neg(by simp)]
     ·rw[if_neg hN]
      rfl
  ·obtain rfl:n=c.Peers.l.length:=by omega
   right
   rw[if_neg(by simp)]
   rw[List.take_length]at h4 ⊢
   exact⟨_,rfl, .inl⟨rfl,h4⟩⟩
 ·rintro _(⟨rfl,hG⟩|⟨rfl,hG⟩)
  ·simp only[Sum.elim_inl,Rg]
   congr 1
   rw[decide_eq_decide]
   constructor
   ·intro h;exact⟨hp,by omega,hG,by omega⟩
   ·intro h;have:=h.2.2.2;omega
  ·have: ¬IG c:=fun h=>hG h.2.2.1
   simp[this]
end Go.Proofs.YtobejhpigbllpaaGreatDoor.Am
namespace Go.Proofs.YtobejhpigbllpaaGreatDoor.Am
theorem S8{σ β:Type}(n:Nat)(S:Nat→σ){F:σ→Option(σ⊕β)}{r:β}{s:σ}(h0:s=S 0)(h1: ∀i,i<n→F(S i)=some(.inl(S(i+1))))(h2:F(S n)=some(.inr r)):iter F s=some r:=by
 subst h0
 have key: ∀k,k≤n→iter F(S(n-k))=some r:=by
  intro k
  induction k with
  |zero=>intro _;exact Uh h2
  |succ k ih=>
   intro hk
   rw[Qs(h1(n-(k+1))(by omega)),show n-(k+1)+1=n-k by omega]
   exact ih(by omega)
 have:=key n(Nat.le_refl _)
 rwa [Nat.sub_self]at this
theorem Yj{α:Type}{bytes:Nat}{l m:List α}(h:(l.length+m.length)*bytes≤Bf):Wn bytes(GS.mk l)m=some(.mk(l++m)):=by
 unfold Wn
 rw[Fc,if_pos h]
 rfl
abbrev fK(w:Int)(K:Ar UInt8 32):Ap:=⟨w,K,0,zE,zP⟩
abbrev fN(w:Int)(n:UInt64):Ap:=⟨w,zK,n,zE,zP⟩
abbrev fE(e:AF):Ap:=⟨9,zK,0,e,zP⟩
abbrev fP(p:Aq):Ap:=⟨12,zK,0,zE,p⟩
def Ov(p:Bb):List Ap:=[fK 5 p.Key,fK 8 p.Psk,fN 13 1]++if p.End=noE then []else [fE p.End]
def Jp(p:Bb):List Ap:=Ov p++[fN 14 p.Sent,fN 15 p.Got,fN 10(BS p.Keep)]
def C8(p:Bb):List Ap:=Jp p++p.Allowed.l.map fP
def Jq(c:B6):List Ap:=[fK 1 c.Private,fN 2(BS c.Port),fN 3(BS(c.Mark.toNat:Int))]
def E9(c:B6):List Ap:=Jq c++c.Peers.l.flatMap C8
theorem lB(p:Bb):(Ov p).length≤4:=by unfold Ov;split<;>simp
theorem Uj(p:Bb):(Jp p).length≤7:=by
 have:=lB p;unfold Jp;simp only[List.length_append,List.length_cons,List.length_nil];omega
theorem UT(p:Bb):(C8 p).length≤7+p.Allowed.l.length:=by
 have:=Uj p;unfold C8;simp only[List.length_append,List.length_map];omega
theorem ZZ: ∀l:List Bb,(l.flatMap C8).length≤7*l.length+(ER l).length
 |[]=>by simp
 |p::l=>by
  have h1:=ZZ l
  have h2:=UT p
  simp only[List.flatMap_cons,List.length_append,List.length_cons,ER]at h1 ⊢
  omega
theorem Z1(l:List Bb)(i:Nat):((l.take i).flatMap C8).length≤(l.flatMap C8).length:=by
 conv=>rhs;rw[←List.take_append_drop i l,List.flatMap_append,List.length_append]
 omega
theorem X6{α β:Type}(f:α→List β)(l:List α){i:Nat}(h:i<l.length):(l.take(i+1)).flatMap f=(l.take i).flatMap f++f l[i]:=by
 rw[List.take_succ_eq_append_getElem h,List.flatMap_append];simp
theorem map_take{α β:Type}(f:α→β)(l:List α){i:Nat}(h:i<l.length):(l.take(i+1)).map f=(l.take i).map f++[f l[i]]:=by
 rw[List.take_succ_eq_append_getElem h,List.map_append];rfl
theorem wM(p:Bb)(h:p.Allowed.l.length≤1000):KA p=some(.mk(C8 p)):=by
 have hl: ∀q:GS Ap,q= .mk(Ov p)→(Wn 112 q [fN 14 p.Sent,fN 15 p.Got,fN 10(BS p.Keep)])=some(.mk(Jp p)):=by
  rintro _ rfl
  have:=lB p
  rw[Yj(by unfold Bf;simp only[List.length_cons,List.length_nil];omega)]
  rfl
 unfold KA
 refine(congrArg(fun x:Option Bool=>x.bind _)(ZS p.End)).trans ?_
 have he:(if(!decide(p.End=(⟨Ak.z,0⟩:AF)))=true then(Wn 112(GS.mk [fK 5 p.Key,fK 8 p.Psk,fN 13 1]) [fE p.End]).bind fun x38=>some(.inl x38)else some(.inl(GS.mk [fK 5 p.Key,fK 8 p.Psk,fN 13 1])):Option(GS Ap⊕GS Ap))=some(.inl(.mk(Ov p))):=by
  by_cases hn:p.End=noE
  ·have hn':p.End=(⟨Ak.z,0⟩:AF):=hn
   rw[if_neg(by rw[decide_eq_true hn'];decide)]
   unfold Ov
   rw[if_pos hn]
   rfl
  ·have hn': ¬p.End=(⟨Ak.z,0⟩:AF):=hn
   rw[if_pos(by rw[decide_eq_false hn'];rfl),Yj(by unfold Bf;simp only[List.length_cons,List.length_nil];omega)]
   unfold Ov
   rw[if_neg hn]
   rfl
 refine(congrArg(fun x:Option(GS Ap⊕GS Ap)=>x.bind _)he).trans ?_
 refine(congrArg(fun x:Option(GS Ap)=>x.bind _)(hl _ rfl)).trans ?_
 have hh:=Uj p
 have hi:(iter _((0:Int),GS.mk(Jp p)):Option(GS Ap⊕GS Ap))=some(.inl(.mk(C8 p))):=
  S8(F:=fun s23:Int×GS Ap=>(if(decide(s23.1<(p.Allowed.l.length:Int)))=true then
   (Fv p.Allowed.l s23.1).bind fun x26=>(Wn 112 s23.2 [fP x26]).bind fun x33=>some(.inl(IntKind.i64.wrap(s23.1+1),x33))else some(.inr(.inl s23.2)):Option((Int×GS Ap)⊕(GS Ap⊕GS Ap))))
   p.Allowed.l.length(fun i=>((i:Int),GS.mk(Jp p++(p.Allowed.l.take i).map fP)))(by simp)(by
   intro i hi
   dsimp only
   rw[if_pos(by simpa using hi),BF,List.getElem?_eq_getElem hi,Option.bind_some,Yj(by unfold Bf;simp only[List.length_append,List.length_map,List.length_take,List.length_cons,List.length_nil];omega),Option.bind_some,map_take fP _ hi,show(i:Int)+1=((i+1:Nat):Int)by omega,B1(by omega),List.append_assoc])(by
   dsimp only
   rw[if_neg(by simp),List.take_length];first|done|rfl)
 exact(congrArg(fun x:Option(GS Ap⊕GS Ap)=>x.bind _)hi).trans rfl
theorem ZC{l:List Bb}{p:Bb}(h:p∈l):p.Allowed.l.length≤(ER l).length:=by
 induction l with
 |nil=>cases h
 |cons q l ih=>
  simp only[ER,List.flatMap_cons,List.length_append]at ih ⊢
  rcases List.mem_cons.1 h with rfl|h
  ·omega
  ·have:=ih h;omega
theorem ST{c:B6}(h:IG c):(c.Peers.l.flatMap C8).length≤176:=by
 have:=ZZ c.Peers.l
 have h1:=h.2.1
 have h2:=h.2.2.2
 omega
def Wb(l:List Ap):AN:=RT(l.map fun f=>GI(K2 f))
theorem pM(l m:List Ap):Wb(l++m)=Wb l++Wb m:=by unfold Wb;rw[List.map_append,bC]
theorem bD(f:Ap):Wb [f]=GI(K2 f)++[10]:=pJ _
theorem pL{l:List Ap}(h: ∀f∈l,RS f):(Wb l).length≤l.length*513:=by
 have:=pK(l.map fun f=>GI(K2 f))512(fun x hx=>by
  obtain⟨f,hf,rfl⟩:=List.mem_map.1 hx
  exact(Sp(h f hf)).2.2.2.2)
 rwa [List.length_map]at this
theorem AaL{γ:Type}{l:List Ap}{f:Ap}{K:AN→Option γ}(hf:RS f)(hl: ∀f∈l,RS f)(hn:l.length≤1000):
  ((El f).bind fun x=>(if(Wb l).length+x.length≤2*Bf then some(Wb l++x)else none).bind K)=K(Wb(l++[f])):=by
 have h1:=pL hl
 have h2:=(Sp hf).2.2.2.2
 rw[Sw hf,Option.bind_some,if_pos(by simp only[List.length_append,List.length_cons,List.length_nil];unfold Bf;omega),Option.bind_some,pM,bD]
theorem Zy{n:Int}(h:Nj n):(BS n).toNat≤65535:=by
 obtain⟨m,rfl⟩: ∃m:Nat,n=m:=⟨n.toNat,by have:=h.1;omega⟩
 have:=h.2
 rw[u64N(by omega)];omega
theorem cV{c:B6}(h:Nj c.Port): ∀f∈Jq c,RS f:=by
 intro f hf
 simp only[Jq,List.mem_cons,List.not_mem_nil,or_false]at hf
 rcases hf with rfl|rfl|rfl
 ·exact .key(.inl rfl)
 ·exact .num(.inl rfl)(Nat.zero_le _)(Zy h)
 ·refine .num(.inr(.inl rfl))(Nat.zero_le _) ?_
  have:=c.Mark.toNat_lt
  rw[u64N(by omega)]
  show c.Mark.toNat≤4294967295
  omega
theorem ok_end{p:Bb}(h:P9 p): ∀f∈Ov p,RS f:=by
 intro f hf
 unfold Ov at hf
 rcases List.mem_append.1 hf with hf|hf
 ·simp only[List.mem_cons,List.not_mem_nil,or_false]at hf
  rcases hf with rfl|rfl|rfl
  ·exact .key(.inr(.inl rfl))
  ·exact .key(.inr(.inr rfl))
  ·exact .num(.inr(.inr(.inr(.inl rfl))))(by decide)(by decide)
 ·split at hf
  ·cases hf
  ·rename_i hne
   simp only[List.mem_cons,List.not_mem_nil,or_false]at hf
   subst hf
   exact .host(h.2.1.resolve_left hne)
theorem Wg{p:Bb}(h:P9 p): ∀f∈C8 p,RS f:=by
 intro f hf
 unfold C8 Jp at hf
 rcases List.mem_append.1 hf with hf|hf
 ·rcases List.mem_append.1 hf with hf|hf
  ·exact ok_end h f hf
  ·simp only[List.mem_cons,List.not_mem_nil,or_false]at hf
   rcases hf with rfl|rfl|rfl
   ·exact .num(.inr(.inr(.inr(.inr(.inl rfl)))))(Nat.zero_le _)(by have:=p.Sent.toNat_lt;show p.Sent.toNat≤18446744073709551615;omega)
   ·exact .num(.inr(.inr(.inr(.inr(.inr(.inl rfl))))))(Nat.zero_le _)(by have:=p.Got.toNat_lt;show p.Got.toNat≤18446744073709551615;omega)
   ·exact .num(.inr(.inr(.inl rfl)))(Nat.zero_le _)(Zy h.1)
 ·obtain⟨q,hq,rfl⟩:=List.mem_map.1 hf
  obtain⟨i,hi,rfl⟩:=List.mem_iff_getElem.1 hq
  obtain⟨p',hp',hr,_⟩:=h.2.2 i hi
  rw[List.getElem?_eq_getElem hi]at hp'
  cases hp'
  exact .pre hr
theorem pX{l:List Bb}(h: ∀p∈l,P9 p): ∀f∈l.flatMap C8,RS f:=by
 intro f hf
 obtain⟨p,hp,hf⟩:=List.mem_flatMap.1 hf
 exact Wg(h p hp)f hf
theorem pY{c:B6}(h:IG c): ∀f∈E9 c,RS f:=by
 intro f hf
 rcases List.mem_append.1 hf with hf|hf
 ·exact cV h.1 f hf
 ·exact pX h.2.2.1.1 f hf
theorem ok_err:RS(QN 0):= .num(w:=16)(n:=0)(.inr(.inr(.inr(.inr(.inr(.inr rfl))))))(by decide)(by decide)
def Z0(c:B6):AN:=Wb(E9 c++[QN 0])++[10]
open Classical in
theorem jP(c:B6)(hs:Rx c):Hk c=some(if IG c then(Z0 c,0)else([],1)):=by
 have hr:=lX c hs
 unfold Hk
 by_cases hc:IG c
 ·rw[decide_eq_true hc]at hr
  have hf:=ST hc
  have hlen:(E9 c++[QN 0]).length≤180:=by
   unfold E9 Jq
   simp only[List.length_append,List.length_cons,List.length_nil]
   omega
  have hok: ∀f∈E9 c++[QN 0],RS f:=by
   intro f h
   rcases List.mem_append.1 h with h|h
   ·exact pY hc f h
   ·simp only[List.mem_cons,List.not_mem_nil,or_false]at h
    subst h;exact ok_err
  refine(congrArg(fun x:Option Bool=>x.bind _)hr).trans ?_
  have hi:(iter _((0:Int),GS.mk(Jq c)):Option(GS Ap⊕(AN×Int)))=some(.inl(.mk(E9 c))):=
   S8(F:=fun s15:Int×GS Ap=>(if(decide(s15.1<(c.Peers.l.length:Int)))=true then
    (Fv c.Peers.l s15.1).bind fun x18=>(KA x18).bind fun x23=>(Wn 112 s15.2 x23.l).bind fun x24=>some(.inl(IntKind.i64.wrap(s15.1+1),x24))else some(.inr(.inl s15.2)):Option((Int×GS Ap)⊕(GS Ap⊕(AN×Int)))))
    c.Peers.l.length(fun i=>((i:Int),GS.mk(Jq c++(c.Peers.l.take i).flatMap C8)))(by simp)(by
    intro i hi
    have hb:=Z1 c.Peers.l i
    have hp:=ZC(List.getElem_mem hi)
    have h64:=hc.2.2.2
    have hfl:=UT c.Peers.l[i]
    dsimp only
    rw[if_pos(by simpa using hi),BF,List.getElem?_eq_getElem hi,Option.bind_some,wM _(by omega),Option.bind_some,Fc,Yj(by unfold Bf Jq;simp only[List.length_append,List.length_cons,List.length_nil];omega),Option.bind_some,X6 _ _ hi,show(i:Int)+1=((i+1:Nat):Int)by omega,B1(by have:=hc.2.1;omega),List.append_assoc])(by
    dsimp only
    rw[if_neg(by simp),List.take_length];first|done|rfl)
  refine(congrArg(fun x:Option(GS Ap⊕(AN×Int))=>x.bind _)hi).trans ?_
  have h1:Wn 112(GS.mk(E9 c)) [QN 0]=some(.mk(E9 c++[QN 0])):=Yj(by
   simp only[List.length_append,List.length_cons,List.length_nil]at hlen ⊢
   unfold Bf;omega)
  refine(congrArg(fun x:Option(GS Ap)=>x.bind _)h1).trans ?_
  have h2:G1(.mk(E9 c++[QN 0]))=some(.mk((E9 c++[QN 0]).map K2)):=by
   rw[TU _((E9 c++[QN 0]).map fun f=>(K2 f,0)) ?_(by rw[Fc];omega)]
   ·rw[List.map_map]
    rfl
   ·rw[Fc,List.map_map]
    exact List.map_congr_left fun f hf=>pair_ok(hok f hf)
  refine(congrArg(fun x:Option(GS A7)=>x.bind _)h2).trans ?_
  have h3:Em(.mk((E9 c++[QN 0]).map K2))=some(Z0 c,0):=by
   rw[aL _ ?_]
   ·unfold Uy
    rw[Fc,if_neg(by rw[List.length_map];omega),List.find?_eq_none.2 ?_]
    ·show some(RT(((E9 c++[QN 0]).map K2).map GI)++[10],(0:Int))=_
     rw[List.map_map]
     rfl
    ·intro p hp
     obtain⟨f,hf,rfl⟩:=List.mem_map.1 hp
     rw[badP_of(Sp(hok f hf))]
     decide
   ·intro p hp
    obtain⟨f,hf,rfl⟩:=List.mem_map.1 hp
    have:=(Sp(hok f hf)).2.2.2.2
    unfold GI at this
    simp only[List.length_append,List.length_cons]at this
    omega
  refine(congrArg(fun x:Option(AN×Int)=>x.bind _)h3).trans ?_
  rw[if_pos hc]
  rfl
 ·rw[decide_eq_false hc]at hr
  refine(congrArg(fun x:Option Bool=>x.bind _)hr).trans ?_
  rw[if_neg hc]
  rfl
noncomputable abbrev U2{γ:Type}(s:AN)(f:Ap)(K:AN→Option γ):Option γ:=
 (El f).bind fun x=>(if s.length+x.length≤2*Bf then some(s++x)else none).bind K
theorem In{γ:Type}{l:List Ap}{f:Ap}{K:AN→Option γ}(hf:RS f)(hl: ∀f∈l,RS f)(hn:l.length≤1000):U2(Wb l)f K=K(Wb(l++[f])):=AaL hf hl hn
theorem Mg{l:List Ap}{f:Ap}(hl: ∀f∈l,RS f)(hf:RS f): ∀g∈l++[f],RS g:=by
 intro g hg
 rcases List.mem_append.1 hg with h|h
 ·exact hl g h
 ·rw[List.mem_singleton.1 h];exact hf
theorem Nu{l:List Ap}{f:Ap}{n:Nat}(h:l.length≤n):(l++[f]).length≤n+1:=by simpa using h
theorem wD{γ:Type}{c:B6}(h:Nj c.Port){K:AN→Option γ}:((El(fK 1 c.Private)).bind fun x6=>U2 x6(fN 2(BS c.Port))fun x11=>U2 x11(fN 3(BS(c.Mark.toNat:Int)))K)=K(Wb(Jq c)):=by
 have ok:=cV h
 have o1:=ok(fK 1 c.Private)(by simp[Jq])
 have o2:=ok(fN 2(BS c.Port))(by simp[Jq])
 have o3:=ok(fN 3(BS(c.Mark.toNat:Int)))(by simp[Jq])
 have a1: ∀g∈[fK 1 c.Private],RS g:=fun g hg=>by rw[List.mem_singleton.1 hg];exact o1
 rw[Sw o1,Option.bind_some,←bD,In o2 a1(by simp),In o3(Mg a1 o2)(by simp)]
 rfl
theorem wC{γ:Type}{p:Bb}(h:P9 p){l:List Ap}(hl: ∀f∈l,RS f)(hn:l.length≤500){K:AN→Option γ}:
  (U2(Wb l)(fK 5 p.Key)fun x30=>U2 x30(fK 8 p.Psk)fun x34=>U2 x34(fN 13 1)fun x37=>
   (if(!(HN Cy p.End(⟨Ak.z,0⟩:AF)))=true then U2 x37(fE p.End)fun x72=>some(.inl x72)else some(.inl x37):Option(AN⊕γ)).bind(Sum.elim(fun p41=>
    U2 p41(fN 14 p.Sent)fun x46=>U2 x46(fN 15 p.Got)fun x50=>U2 x50(fN 10(BS p.Keep))K)some))=K(Wb(l++Jp p)):=by
 have ok:=Wg h
 have o1:=ok(fK 5 p.Key)(by simp[C8,Jp,Ov])
 have o2:=ok(fK 8 p.Psk)(by simp[C8,Jp,Ov])
 have o3:=ok(fN 13 1)(by simp[C8,Jp,Ov])
 have o5:=ok(fN 14 p.Sent)(by simp[C8,Jp,Ov])
 have o6:=ok(fN 15 p.Got)(by simp[C8,Jp,Ov])
 have o7:=ok(fN 10(BS p.Keep))(by simp[C8,Jp,Ov])
 have a1:=Mg hl o1
 have a2:=Mg a1 o2
 have a3:=Mg a2 o3
 have n1:=Nu(f:=fK 5 p.Key)hn
 have n2:=Nu(f:=fK 8 p.Psk)n1
 have n3:=Nu(f:=fN 13 1)n2
 rw[In o1 hl(by omega),In o2 a1(by omega),In o3 a2(by omega)]
 have e3:l++[fK 5 p.Key]++[fK 8 p.Psk]++[fN 13 1]=l++[fK 5 p.Key,fK 8 p.Psk,fN 13 1]:=by simp
 have key: ∀m:List Ap,m=l++Ov p→(∀f∈m,RS f)→m.length≤504→(U2(Wb m)(fN 14 p.Sent)fun x46=>U2 x46(fN 15 p.Got)fun x50=>U2 x50(fN 10(BS p.Keep))K)=K(Wb(l++Jp p)):=by
  intro m hm hok hlen
  have m1:=Nu(f:=fN 14 p.Sent)hlen
  have m2:=Nu(f:=fN 15 p.Got)m1
  rw[In o5 hok(by omega),In o6(Mg hok o5)(by omega),In o7(Mg(Mg hok o5)o6)(by omega),hm]
  unfold Jp
  simp
 by_cases he:p.End=noE
 ·have hc:HN Cy p.End(⟨Ak.z,0⟩:AF)=true:=by rw[cmpE,decide_eq_true_eq];exact he
  rw[if_neg(by rw[hc];decide)]
  exact key _(by unfold Ov;rw[if_pos he,e3];simp)a3(by omega)
 ·have hc:HN Cy p.End(⟨Ak.z,0⟩:AF)=false:=by rw[cmpE,decide_eq_false_iff_not];exact he
  have o4:=ok(fE p.End)(by simp[C8,Jp,Ov,he])
  have n4:=Nu(f:=fE p.End)n3
  rw[if_pos(by rw[hc];decide),In o4 a3(by omega)]
  exact key _(by unfold Ov;rw[if_neg he,e3];simp)(Mg a3 o4)(by omega)
theorem sG:cN 0=GI(K2(QN 0))++[10,10]:=by decide+kernel
open Classical in
theorem wB(c:B6)(hs:Rx c):Sx c=some(if IG c then(Z0 c,true)else([],false)):=by
 have hr:=sH c hs
 unfold Sx
 by_cases hc:IG c
 ·rw[decide_eq_true hc]at hr
  have hf:=ST hc
  have hokc:=pY hc
  refine(congrArg(fun x:Option Bool=>x.bind _)hr).trans ?_
  refine(wD hc.1).trans ?_
  have hlen:(E9 c).length≤179:=by
   unfold E9 Jq
   simp only[List.length_append,List.length_cons,List.length_nil]
   omega
  have hfin:Wb(E9 c)++cN 0=Z0 c:=by unfold Z0;rw[pM,bD,sG];simp
  have hlt:=pL hokc
  have hr0:(cN 0).length≤100:=by decide
  have hend:((IN 0).bind fun x73=>(if(Wb(E9 c)).length+x73.length≤2*Bf then some(Wb(E9 c)++x73)else none).bind fun x74=>some(x74,true))=some(Z0 c,true):=by
   rw[show IN 0=some(cN 0)from r39_in(n:=0)(by omega),Option.bind_some,if_pos(by unfold Bf;omega),hfin,Option.bind_some]
  rw[if_pos hc]
  refine Eq.trans(b:=(some(Sum.inl(Wb(E9 c))):Option(AN⊕(AN×Bool))).bind _)(congrArg(fun x:Option(AN⊕(AN×Bool))=>x.bind _)(S8 c.Peers.l.length(fun i=>(Wb(Jq c++(c.Peers.l.take i).flatMap C8),(i:Int)))(by simp) ?_ ?_))hend
  ·intro i hi
   have hb:=Z1 c.Peers.l i
   have hpm:=List.getElem_mem hi
   have hp:=ZC hpm
   have h64:=hc.2.2.2
   have h16:=hc.2.1
   have hoki: ∀f∈Jq c++(c.Peers.l.take i).flatMap C8,RS f:=by
    intro f hf
    rcases List.mem_append.1 hf with hf|hf
    ·exact cV hc.1 f hf
    ·exact pX(fun p hp=>hc.2.2.1.1 p(List.mem_of_mem_take hp))f hf
   have hlni:(Jq c++(c.Peers.l.take i).flatMap C8).length≤179:=by
    unfold Jq
    simp only[List.length_append,List.length_cons,List.length_nil]
    omega
   have hph:=Uj c.Peers.l[i]
   have hpo:=hc.2.2.1.1 _ hpm
   dsimp only
   rw[if_pos(by simpa using hi),BF,List.getElem?_eq_getElem hi,Option.bind_some]
   refine(wC hpo hoki(by omega)).trans ?_
   refine Eq.trans(b:=(some(Sum.inl(Wb(Jq c++(c.Peers.l.take i).flatMap C8++C8 c.Peers.l[i]))):Option(AN⊕((AN×Int)⊕(AN⊕(AN×Bool))))).bind _)(congrArg(fun x:Option(AN⊕((AN×Int)⊕(AN⊕(AN×Bool))))=>x.bind _)(S8 c.Peers.l[i].Allowed.l.length(fun j=>(Wb(Jq c++(c.Peers.l.take i).flatMap C8++Jp c.Peers.l[i]++(c.Peers.l[i].Allowed.l.take j).map fP),(j:Int)))(by simp) ?_ ?_)) ?_
   ·intro j hj
    have hokj: ∀f∈Jq c++(c.Peers.l.take i).flatMap C8++Jp c.Peers.l[i]++(c.Peers.l[i].Allowed.l.take j).map fP,RS f:=by
     intro f hf
     rw[List.append_assoc]at hf
     rcases List.mem_append.1 hf with hf|hf
     ·exact hoki f hf
     ·refine Wg hpo f ?_
      unfold C8
      rcases List.mem_append.1 hf with hf|hf
      ·exact List.mem_append_left _ hf
      ·refine List.mem_append_right _ ?_
       obtain⟨q,hq,rfl⟩:=List.mem_map.1 hf
       exact List.mem_map_of_mem(List.mem_of_mem_take hq)
    have okj:RS(fP(c.Peers.l[i].Allowed.l[j])):=Wg hpo _(by unfold C8;exact List.mem_append_right _(List.mem_map_of_mem(List.getElem_mem hj)))
    dsimp only
    rw[if_pos(by simpa using hj),BF,List.getElem?_eq_getElem hj,Option.bind_some]
    refine(In okj hokj(by simp only[List.length_append,List.length_map,List.length_take]at hlni ⊢;omega)).trans ?_
    rw[List.append_assoc,←map_take fP _ hj,show(j:Int)+1=((j+1:Nat):Int)by omega,B1(by omega)]
   ·dsimp only
    rw[if_neg(by simp),List.take_length,List.append_assoc]
    rfl
   ·dsimp only[Option.bind_some,Sum.elim_inl]
    rw[X6 _ _ hi,show(i:Int)+1=((i+1:Nat):Int)by omega,B1(by omega),List.append_assoc]
  ·dsimp only
   rw[if_neg(by simp),List.take_length]
   rfl
 ·rw[decide_eq_false hc]at hr
  refine(congrArg(fun x:Option Bool=>x.bind _)hr).trans ?_
  rw[if_neg hc]
  rfl
theorem nB(c:B6): ∃b,Qi c=some b∧(b=false→Rx c):=by
 unfold Qi
 by_cases h:20<c.Peers.l.length
 ·exact⟨true,by rw[if_pos(by rw[decide_eq_true_eq];omega)],by simp⟩
 ·rw[if_neg(by rw[decide_eq_true_eq];omega)]
  obtain⟨r,e,hq⟩: ∃r:Unit⊕Bool,iter(fun s4:Int=>if(decide(s4<(c.Peers.l.length:Int)))=true then
    (Fv c.Peers.l s4).bind fun x10=>
    if(decide(80<(x10.Allowed.l.length:Int)))=true then
    (some true).map fun r=> .inr(.inr r)
    else
    some(.inl(IntKind.i64.wrap(s4+1)))
    else
    some(.inr(.inl())))0=some r∧(r= .inr true∨(r= .inl()∧Rx c)):=by
   refine N0(fun s:Int=>c.Peers.l.length-s.toNat)(fun s:Int=> ∃n:Nat,s=n∧n≤c.Peers.l.length∧ ∀i(hi:i<n)(hl:i<c.Peers.l.length),c.Peers.l[i].Allowed.l.length≤80)
    (fun r:Unit⊕Bool=>r= .inr true∨(r= .inl()∧Rx c)) ?_⟨0,rfl,by omega,fun i hi=>absurd hi(by omega)⟩
   rintro _⟨n,rfl,h1,h2⟩
   by_cases hn:n<c.Peers.l.length
   ·rw[if_pos(by simpa using hn),BF,List.getElem?_eq_getElem hn,Option.bind_some]
    by_cases h8:80<c.Peers.l[n].Allowed.l.length
    ·rw[if_pos(by rw[decide_eq_true_eq];omega)]
     exact .inr⟨_,rfl, .inl rfl⟩
    ·rw[if_neg(by rw[decide_eq_true_eq];omega),show(n:Int)+1=((n+1:Nat):Int)by omega,B1(by omega)]
     refine .inl⟨_,rfl,⟨n+1,rfl,by omega,fun i hi hl=> ?_⟩,by omega⟩
     by_cases e:i<n
     ·exact h2 i e hl
     ·obtain rfl:i=n:=by omega
      omega
   ·rw[if_neg(by simpa using hn)]
    refine .inr⟨_,rfl, .inr⟨rfl,by omega,fun p hp=> ?_⟩⟩
    obtain⟨i,hi,rfl⟩:=List.mem_iff_getElem.1 hp
    exact h2 i(by omega)hi
  refine⟨Sum.elim(fun _=>false)(fun b=>b)r,(congrArg(fun x:Option(Unit⊕Bool)=>x.bind(Sum.elim(fun _=>some false)some))e).trans(by cases r<;>rfl),?_⟩
  rcases hq with rfl|⟨rfl,hq⟩
  ·intro h;cases h
  ·exact fun _=>hq
theorem S6(c:B6):KL c=some true:=by
 obtain⟨b,hb,hs⟩:=nB c
 unfold KL
 rw[hb,Option.bind_some]
 cases b with
 |true=>rw[if_pos rfl,MJ];rfl
 |false=>
  have hs:=hs rfl
  rw[if_neg(by decide),jP c hs,wB c hs]
  by_cases hc:IG c
  ·rw[if_pos hc,if_pos hc]
   simp only[Option.bind_some,MJ,decide_true,D1,Ig,if_true]
  ·rw[if_neg hc,if_neg hc]
   simp only[Option.bind_some,MJ,D1,Ig,if_true]
   first|done|rfl
end Go.Proofs.YtobejhpigbllpaaGreatDoor.Am

