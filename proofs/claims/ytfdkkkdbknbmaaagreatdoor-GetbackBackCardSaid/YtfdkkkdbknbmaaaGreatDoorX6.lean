/-
  Plain laws: blocks of pairs; the laws PairlineBlocks, PairlineReads, PairlineMany.
-/
import Derived.Test.YtfdkkkdbknbmaaaGreatDoorX5
set_option linter.unusedVariables false
set_option linter.unusedSimpArgs false
namespace Go.Proofs.YtfdkkkdbknbmaaaGreatDoor.Am
noncomputable section
open Ar renaming ext→pi
open BitVec renaming ofInt→cr, toNat_ofInt→jr, toNat_or→qf
open Bool renaming and_eq_true→af, and_true→lc, eq_iff_iff→gq, false_eq_true→ah, false_ne_true→r5, not_eq_true'→ck, not_false→ju, not_true→cq
open CA renaming arr→l8, u8→nr
open Eq renaming trans→pc
open IT renaming u8→ib
open Int renaming fdiv→kw, fdiv_eq_ediv_of_nonneg→n9, ofNat_fdiv→qv, ofNat_le→n5, ofNat_tdiv→m7, ofNat_tmod→oj, tdiv→jt, tmod→j6, toNat_natCast→m6, toNat_of_nonneg→re
open IntKind renaming i64→tz, wrap→tx
open List renaming all_append→ka, all_cons→fy, all_eq_true→cb, append_assoc→br, append_cancel_right→mi, append_inj_right'→pz, append_nil→ei, concat_eq_append→nf, cons_append→cd, dropWhile_sublist→qb, drop_drop→cw, drop_eq_getElem_cons→da, drop_eq_nil_of_le→k0, drop_left'→fh, drop_of_length_le→fi, drop_take→ic, drop_zero→dq, eq_nil_of_length_eq_zero→c0, eq_nil_or_concat→ne, exists_cons_of_ne_nil→fb, exists_of_findSome?_eq_some→gf, ext_getElem?→ew, find?_cons→qe, find?_eq_none→ol, findIdx?_eq_none_iff→j9, findIdx?_eq_some_iff_getElem→ir, findSome?_eq_none_iff→gn, flatMap_append→kl, flatMap_cons→d5, flatMap_map→o9, foldl_cons→nv, getD_eq_getElem?_getD→ma, getElem?_append_left→bq, getElem?_append_right→bo, getElem?_cons_succ→di, getElem?_cons_zero→bw, getElem?_drop→gj, getElem?_eq_getElem→ab, getElem?_eq_none→dk, getElem?_eq_some_iff→cg, getElem?_map→ge, getElem?_set→i7, getElem?_take→dn, getElem_map→nj, getElem_mem→eu, getElem_of_mem→rd, getElem_take→kd, isPrefixOf→kb, length→jd, length_append→an, length_cons→ba, length_drop→bk, length_eq_zero_iff→im, length_map→cj, length_nil→bu, length_pos_iff→nx, length_set→ig, length_singleton→lh, length_take→aq, map_append→df, map_congr_left→rb, map_cons→bh, map_map→j0, map_singleton→la, map_take→ox, mem_append→cf, mem_cons→bm, mem_cons_of_mem→a8, mem_cons_self→bg, mem_iff_getElem→gm, mem_map→eh, mem_of_getElem?→d8, mem_of_mem_drop→cz, mem_of_mem_take→co, mem_range'_1→dx, mem_singleton→ct, nil_append→dt, nodup_append→ke, not_mem_nil→f8, range→lz, range'→dp, replicate→az, singleton_append→gb, take→ra, takeWhile_sublist→qa, take_append→jq, take_append_drop→c9, take_left'→ij, take_length→f9, take_of_length_le→au, take_succ_eq_append_getElem→bf, take_take→kp, take_zero→lq
open List.Sublist renaming length_le→p0
open List.cons renaming inj→ia, injEq→gr
open Nat renaming add_assoc→iw, add_comm→pn, add_mul→ga, add_sub_cancel→oe, add_sub_cancel_left→iq, add_zero→i6, div_div_eq_div_mul→k9, div_le_self→lb, div_lt_iff_lt_mul→jn, eq_zero_or_pos→ez, le_div_iff_mul_le→li, le_refl→bc, le_trans→dj, lt_of_le_of_lt→j7, lt_of_lt_of_le→dv, lt_or_ge→ef, lt_trans→mb, min_eq_left→fq, mod_eq_of_lt→j3, mod_lt→td, mul_le_mul_right→cn, mul_one→qr, mul_zero→si, one_mul→sw, pow_add→qw, pow_le_pow_right→qx, pow_pos→ov, pow_succ→i8, sub_self→jz, two_pow_add_eq_or_of_lt→ln, zero_add→dc, zero_le→dz, zero_mul→kc
open Ne renaming symm→iz
open Option renaming bind→qy, bind_some→aa, getD_some→io, map_eq_some_iff→aj, map_none→dg, map_some→ak
open Option.some renaming inj→be, injEq→ae
open Sum renaming elim→bd, elim_inl→dw, elim_inr→pl
open T renaming arr→aw, u16→dy, u8→bi
open UInt16 renaming ofNat→ca, toNat_ofNat'→ja
open UInt32 renaming ofNat→pm
open UInt64 renaming ofNat→d7, toNat_ofNat'→jb
open UInt8 renaming ofNat→bb, toNat→sv, toNat_inj→ii, toNat_ofNat'→gi
section
theorem gH{α:Type}{q:α→Bool}: ∀{l:List α} {n:Nat} {x:α},l[n]? =some x→(∀y∈l.take n,q y=false)→q x=true→l.find? q=some x
 |[],_,_,h,_,_=>by simp at h
 |y::l,0,x,h,_,hq=>by simp only[bw,ae]at h;subst h;simp[hq]
 |y::l,n+1,x,h,ha,hq=>by
  have h1:=ha y (by simp);rw[qe,h1];exact gH (n:=n) (by simpa using h) (fun z hz=>ha z (by simp[hz])) hq
def Vn(p:At):AP×Int:=Zp p.Key p.Value
def XF(p:At):Bool:=decide ((Vn p).2≠0)
def Ds(p:At):AP:=p.Key++61::p.Value
def convP(p:At):CW:=⟨p.Key,p.Value⟩
def AaY(l:List At):AP×Int:=
 if 400<l.length then([],4)else match l.find? XF with
  |some p=>([],(Vn p).2)
  |none=>(OG (l.map Ds)++[10],0)
theorem textP_ok{k v:AP}(h:(Zp k v).2=0):(Zp k v).1=k++61::v∧Sb (k++61::v) k v:=by
 unfold Zp at h ⊢
 by_cases hc:k=[]∨61∈k∨10∈k∨10∈v
 ·rw[t6 hc]at h;simp at h
 ·rw[t7 hc]at h ⊢
  by_cases hl:512<(k++[61]++v).length
  ·rw[t6 hl]at h;simp at h
  ·rw[t7 hl];refine⟨by simp,rfl,fun h=>hc (.inr (.inl h)),fun h=>hc (.inl h),fun h=> ?_,by simp at hl ⊢;omega⟩;simp only[cf,bm]at h;rcases h with h|h|h
   ·exact hc (.inr (.inr (.inl h)))
   ·exact absurd h (by decide)
   ·exact hc (.inr (.inr (.inr h)))
theorem textP_of{k v:AP}(s:Sb (k++61::v) k v):Zp k v=(k++61::v,0):=by
 have hm:=s.2.2.2.1;have hle:=s.2.2.2.2;simp only[cf,bm,not_or]at hm;unfold Zp;rw[t7 (by
  rintro(h|h|h|h)
  ·exact s.2.2.1 h
  ·exact s.2.1 h
  ·exact hm.1 h
  ·exact hm.2.2 h),t7 (by simp at hle ⊢;omega)]
 simp
theorem iW{p:At}(h:XF p=false):Vn p=(Ds p,0)∧Sb (Ds p) p.Key p.Value:=by
 simp only[XF,ne_eq,decide_not,Bool.not_eq_false',t8]at h;obtain⟨h1,h2⟩:=textP_ok h;exact⟨Prod.ext h1 h,h2⟩
theorem badP_true{p:At}(h:XF p=true):(Vn p).2≠0:=by simpa [XF]using h
theorem badP_of{p:At}(s:Sb (Ds p) p.Key p.Value):XF p=false:=by
 have:=textP_of s;simp[XF,Vn,this]
def FitP(l:List At):Prop:= ∀p∈l,p.Key.length<1073741824∧p.Value.length<1073741824
theorem nJ{l:List At}(h: ∀p∈l,XF p=false)(hl:l.length≤400):(OG (l.map Ds)).length≤205200:=by
 have:=txt_len (l.map Ds) 512 (fun x hx=>by
  obtain⟨p,hp,rfl⟩:=eh.1 hx;exact(iW (h p hp)).2.2.2.2.2)
 rw[cj]at this;have h2:l.length*513≤400*513:=cn _ hl;omega
theorem block_val(g:GS At)(hf:FitP g.l):Ip g=some (AaY g.l):=by
 unfold Ip AaY
 by_cases h4:400<g.l.length
 ·rw[t6 h4,t6 (by rw[t8];omega)]
 rw[t7 h4,t7 (by rw[t8];omega)];refine CP (fun s=>g.l.length-s.1.toNat) (fun s=> ∃n:Nat,s.1=n∧n≤g.l.length∧(∀p∈g.l.take n,XF p=false)∧s.2.l=(g.l.take n).map Ds)
  (fun r=>(∃b:GS AP,r= .inl b∧(∀p∈g.l,XF p=false)∧b.l=g.l.map Ds)∨ ∃p,r= .inr ([],(Vn p).2)∧g.l.find? XF=some p) ⟨0,rfl,by omega,by simp,rfl⟩ ?_ ?_
 ·rintro⟨s,b⟩ ⟨n,rfl,h1,h2,h3⟩;dsimp only at h3 ⊢
  by_cases hn:n<g.l.length
  ·rw[t6 (by simpa using hn),By,ab hn];have hfit:=hf _ (eu hn);have ht:Jl g.l[n]=some (Vn g.l[n]):=text_val _ _ hfit.1 hfit.2;simp only[aa,ht]
   by_cases hb:XF g.l[n]=true
   ·right;rw[t6 (by simpa using badP_true hb)];exact⟨_,rfl, .inr ⟨_,rfl,gH (ab hn) h2 hb⟩⟩
   ·left;have hb':XF g.l[n]=false:=by simpa using hb
    obtain⟨e,_⟩:=iW hb';rw[e];have hlen:b.l.length=n:=by rw[h3,cj,aq];omega
    rw[JE (by unfold Ci;omega),show(n:Int)+1=((n+1:Nat):Int) by omega,B6 (by omega)];refine⟨(((n+1:Nat):Int), .mk (b.l++[Ds g.l[n]])),by simp,⟨n+1,rfl,by omega,fun p hp=> ?_,?_⟩,by dsimp only;omega⟩
    ·rw[bf hn]at hp;rcases cf.1 hp with hp|hp
     ·exact h2 p hp
     ·rw[ct.1 hp];exact hb'
    ·rw[bf hn,df,←h3];rfl
  ·right;rw[t7 (by simpa using hn)];rw[au (by omega)]at h2 h3;exact⟨_,rfl, .inl ⟨b,rfl,h2,h3⟩⟩
 ·rintro _ (⟨b,rfl,h1,h2⟩|⟨p,rfl,h⟩)
  ·have hlen:b.l.length=g.l.length:=by rw[h2,cj]
   have hfind:g.l.find? XF=none:=by rw[ol];exact fun x hx=>by simp[h1 x hx]
   have hfit:=nJ h1 (by omega);have ht:OG (b.l++[[]])=OG (g.l.map Ds)++[10]:=by rw[h2,Wk];simp
   simp only[dw,hfind];rw[JE (by unfold Ci;omega),aa,join_val _ (by rw[C0,ht];unfold Ci;simp;omega),C0,ht]
   rfl
  ·simp only[pl,h]
theorem nL(g:GS AP)(x:AP)(hl:g.l.length<1073741824):Fx g x=some (match g.l.findIdx? (fun y=>decide (x=y))with|some i=>(i:Int)|none=> -1):=by
 unfold Fx;refine CP (fun s=>g.l.length-s.toNat) (fun s=> ∃n:Nat,s=n∧n≤g.l.length∧ ∀y∈g.l.take n,x≠y)
  (fun r=>(r= .inl ()∧ ∀y∈g.l,x≠y)∨ ∃n:Nat,r= .inr (n:Int)∧g.l.findIdx? (fun y=>decide (x=y))=some n) ⟨0,rfl,by omega,by simp⟩ ?_ ?_
 ·rintro s ⟨n,rfl,h1,h2⟩
  by_cases hn:n<g.l.length
  ·rw[t6 (by simpa using hn),By,ab hn];simp only[aa]
   by_cases hx:x=g.l[n]
   ·right;rw[t6 (by simpa using hx)];refine⟨_,rfl, .inr ⟨n,rfl,?_⟩⟩;rw[ir];refine⟨hn,by simpa using hx,fun j hj=> ?_⟩;have:=h2 g.l[j] (gm.2 ⟨j,by rw[aq];omega,by rw[kd]⟩);simpa using this
   ·left;rw[t7 (by simpa using hx),show(n:Int)+1=((n+1:Nat):Int) by omega,B6 (by omega)];refine⟨_,rfl,⟨n+1,rfl,by omega,fun y hy=> ?_⟩,by omega⟩;rw[bf hn]at hy;rcases cf.1 hy with hy|hy
    ·exact h2 y hy
    ·rw[ct.1 hy];exact hx
  ·right;rw[t7 (by simpa using hn)];rw[au (by omega)]at h2;exact⟨_,rfl, .inl ⟨rfl,h2⟩⟩
 ·rintro _ (⟨rfl,h⟩|⟨n,rfl,h⟩)
  ·have:g.l.findIdx? (fun y=>decide (x=y))=none:=by rw[j9];exact fun y hy=>by simpa using h y hy
   rw[this];rfl
  ·rw[h];rfl
theorem Zt(c:UInt8): ∀m:AP,AT c (m++[c])=AT c m++[[]]
 |[]=>by simp[AT]
 |x::m=>by
  simp only[cd,AT,Zt c m]
  by_cases hx:x=c
  ·rw[t6 hx,t6 hx];rfl
  ·rw[t7 hx,t7 hx];cases e:AT c m with
   |nil=>exact absurd e (Dd m)
   |cons h t=>rfl
theorem Ua{c:UInt8}: ∀{l:AP} {x:AP},x∈AT c l→c∉x
 |[],x,h=>by simp only[AT,ct]at h;subst h;simp
 |y::l,x,h=>by
  simp only[AT]at h
  by_cases hy:y=c
  ·rw[t6 hy]at h;rcases bm.1 h with rfl|h
   ·simp
   ·exact Ua h
  ·rw[t7 hy]at h;cases e:AT c l with
   |nil=>exact absurd e (Dd l)
   |cons a t=>
    rw[e]at h;rcases bm.1 h with rfl|h
    ·simp only[bm,not_or];exact⟨fun h=>hy h.symm,Ua (l:=l) (by rw[e];simp)⟩
    ·exact Ua (l:=l) (by rw[e];simp[h])
def yB(s:AP)(B:List AP):Prop:=s=OG B++[10]∧ ∀x∈B,x≠[]∧10∉x
theorem yB.uniq{s:AP}{B C:List AP}(h:yB s B)(g:yB s C):B=C:=by
 have e:OG B=OG C:=mi (h.1.symm.trans g.1);have h1:=Qg fun x hx=>(h.2 x hx).2;have h2:=Qg fun x hx=>(g.2 x hx).2;rw[e,h2]at h1;exact(mi h1).symm
def stepL(g:GS AP)(s19:Int×(GS At)):Option ((Int×(GS At))⊕((GS At)⊕((GS At)×Int))):=
 if(decide (s19.1<(g.l.length:Int)))=true then
 (DN g.l s19.1).bind fun x22=>
 (EO x22).bind fun x24=>
 if(!decide (x24.2=0))=true then
 (some (.nil,x24.2)).map fun r=> .inr (.inr r)
 else
 (SS 32 s19.2 [x24.1]).bind fun x32=>
 some (.inl (tx tz (s19.1+1),x32))
 else
 some (.inr (.inl s19.2))
def stepR(g:GS AP)(s26:Int×(GS CW)):Option ((Int×(GS CW))⊕((GS CW)⊕((GS CW)×Int))):=
 if(decide (s26.1<(g.l.length:Int)))=true then
 (DN g.l s26.1).bind fun x30=>
 (Lx x30).bind fun x32=>
 if(!decide (x32.2=0))=true then
 (some (.nil,x32.2)).map fun r=> .inr (.inr r)
 else
 (SS 32 s26.2 [x32.1]).bind fun x40=>
 some (.inl (tx tz (s26.1+1),x40))
 else
 some (.inr (.inl s26.2))
def AbP(g:GS AP):Option ((GS At)×Int):=
 if(decide (400<(g.l.length:Int)))=true then
 some (.nil,4)
 else
 (iter (stepL g) (0, .nil)).bind (bd (fun(p20:(GS At))=>
 some (p20,0)) some)
def AbO(g:GS AP):Option ((GS CW)×Int):=
 if(decide (400<(g.l.length:Int)))=true then
 some (.nil,4)
 else
 (iter (stepR g) (0, .nil)).bind (bd (fun(p27:(GS CW))=>
 some (p27,0)) some)
theorem mL(s:AP)(hl:s.length<1073741000):(∃B,yB s B∧Dk s=AbP (.mk B)∧NW s=AbO (.mk B))∨((∀B,¬yB s B)∧Dk s=some (.nil,5)∧NW s=some (.nil,5)):=by
 have hcd: ∀x:AP,decide (x=([]:AP))=decide (([]:AP)=x):=fun x=>by rw[gq];simp only[t8];exact⟨Eq.symm,Eq.symm⟩
 rcases yK s with rfl|⟨m,c,rfl⟩
 ·right;refine⟨fun B h=> ?_,?_,?_⟩
  ·have:=ue jd h.1;simp at this
  ·unfold Dk;simp only[Aa0,aa,FL]
   rfl
  ·unfold NW;simp only[HJ [] 10 (by simp),aa,FL]
   rfl
 ·have hml:(m++[c]).length=m.length+1:=by simp
  by_cases hc:c=10
  ·subst hc;have hle:=XV (c:=10) m;have hM:=Dd (c:=10) m;have hno: ∀x∈AT 10 m,(10:UInt8)∉x:=fun x=>Ua;have hts:OG (AT 10 m)=m++[10]:=lZ m;obtain⟨B,last,hB⟩: ∃B last,AT 10 m=B++[last]:=by
    rcases ne (AT 10 m)with e|⟨B,last,e⟩
    ·exact absurd e hM
    ·exact⟨B,last,by rw[e,nf]⟩
   rw[hB]at hle hno hts;rw[an,lh]at hle;have hpr:Dk (m++[10])=if last=[]∧ ∀x∈B,x≠[]then AbP (.mk B)else some (.nil,5):=by
    unfold Dk;have hi:=nL (.mk (B++[last])) [] (by rw[C0,an,lh];omega);have e1:((GS.mk (B++[last])).l.length:Int)-1=(B.length:Nat):=by simp
    simp only[zZ m (by omega),hB,aa,FL,hi,e1];rw[B6 (by omega),yN (by simp)];have e0:decide (((GS.mk (B++[last])).l.length:Int)=0)=false:=by simp;omega
    simp only[e0,cq,ah,ud,aa,ij]
    by_cases hok:last=[]∧ ∀x∈B,x≠[]
    ·rw[t6 hok];have hf:(GS.mk (B++[last])).l.findIdx? (fun y=>decide (([]:AP)=y))=some B.length:=by
      rw[C0,List.findIdx?_append,j9.2 (fun x hx=>by simpa using iz (hok.2 x hx)),hok.1];simp
     simp only[hf,decide_true,cq,ah,ud]
     rfl
    ·rw[t7 hok];have hf:(match(GS.mk (B++[last])).l.findIdx? (fun y=>decide (([]:AP)=y))with|some i=>(i:Int)|none=>(-1:Int))≠((B.length:Nat):Int):=by
      cases e:(GS.mk (B++[last])).l.findIdx? (fun y=>decide (([]:AP)=y))with
      |none=>simp only;omega
      |some i=>
       simp only;intro hi;have hi':i=B.length:=by omega
       subst hi';rw[C0,ir]at e;obtain⟨h1,h2,h3⟩:=e;apply hok;refine⟨by simpa using h2,fun x hx=> ?_⟩;obtain⟨j,hj,rfl⟩:=gm.1 hx;have:=h3 j hj;rw[List.getElem_append_left hj]at this;simpa using iz (by simpa using this)
     simp only[hf,decide_false,ju,uc]
   have hrr:NW (m++[10])=if last=[]∧ ∀x∈B,x≠[]then AbO (.mk B)else some (.nil,5):=by
    unfold NW;have hL:AT 10 (m++[10])=B++[last]++[[]]:=by rw[Zt,hB]
    have e1:((GS.mk (B++[last]++[[]])).l.length:Int)-1=((B.length+1:Nat):Int):=by simp;omega
    have e2:((GS.mk (B++[last]++[[]])).l.length:Int)-2=((B.length:Nat):Int):=by simp
    have e3:decide (((GS.mk (B++[last]++[[]])).l.length:Int)<2)=false:=by simp;omega
    have i1:DN (GS.mk (B++[last]++[[]])).l ((B.length+1:Nat):Int)=some []:=by
     rw[By,C0,bo (by simp)];simp
    have i2:DN (GS.mk (B++[last]++[[]])).l ((B.length:Nat):Int)=some last:=by
     rw[By,C0,br,bo (by simp)];simp
    simp only[HJ (m++[10]) 10 (by omega),hL,aa,FL,e1,e2,e3,ah,ud];rw[B6 (by omega),B6 (by omega),i1,i2,yN (by simp)];simp only[aa,decide_true,cq,ah,ud]
    by_cases hlast:last=[]
    ·subst hlast;have ht:ra B.length (B++[[]]++[[]])=B:=by rw[br,ij rfl]
     simp only[decide_true,cq,ah,ud,true_and];rw[ht];have key: ∀K:Unit⊕GS CW×Int→Option (GS CW×Int),(∀x,K (.inr x)=some x)→(iter (fun(s16:Int)=>
       if(decide (s16<((GS.mk B).l.length:Int)))=true then
       (DN (GS.mk B).l s16).bind fun x20=>
       if(decide (x20=[]))=true then
       (some ((.nil:GS CW),(5:Int))).map fun r=> .inr (.inr r)
       else
       some (.inl (tx tz (s16+1)))
       else
       some (.inr (.inl ()))) 0).bind K=if∀x∈B,x≠[]then K (.inl ())else some (.nil,5):=by
      intro K hK;refine CP (fun s=>B.length-s.toNat) (fun s=> ∃n:Nat,s=n∧n≤B.length∧ ∀x∈B.take n,x≠[]) (fun r=>(r= .inl ()∧ ∀x∈B,x≠[])∨(r= .inr (.nil,5)∧ ¬ ∀x∈B,x≠[])) ⟨0,rfl,by omega,by simp⟩ ?_ ?_
      ·rintro s ⟨n,rfl,h1,h2⟩
       by_cases hn:n<B.length
       ·rw[t6 (by simpa using hn),By,C0,ab hn];simp only[aa]
        by_cases hx:B[n]=[]
        ·right;rw[t6 (by simpa using hx)];exact⟨_,rfl, .inr ⟨rfl,fun h=>h _ (eu hn) hx⟩⟩
        ·left;rw[t7 (by simpa using hx),show(n:Int)+1=((n+1:Nat):Int) by omega,B6 (by omega)];refine⟨_,rfl,⟨n+1,rfl,by omega,fun y hy=> ?_⟩,by omega⟩;rw[bf hn]at hy;rcases cf.1 hy with hy|hy
         ·exact h2 y hy
         ·rw[ct.1 hy];exact hx
       ·right;rw[t7 (by simpa using hn)];rw[au (by omega)]at h2;exact⟨_,rfl, .inl ⟨rfl,h2⟩⟩
      ·rintro _ (⟨rfl,h⟩|⟨rfl,h⟩)
       ·rw[t6 h]
       ·rw[t7 h,hK]
     refine(key _ (fun x=>rfl)).trans ?_
     by_cases hall: ∀x∈B,x≠[]
     ·rw[t6 hall,t6 hall];rfl
     ·rw[t7 hall,t7 hall]
    ·simp only[hlast,decide_false,ju,uc,false_and,ud]
   rw[hpr,hrr]
   by_cases hok:last=[]∧ ∀x∈B,x≠[]
   ·left;refine⟨B,⟨?_,fun x hx=>⟨hok.2 x hx,hno x (by simp[hx])⟩⟩,by rw[t6 hok],by rw[t6 hok]⟩;rw[←hts,hok.1,Wk];simp
   ·right;refine⟨fun C hC=>hok ?_,by rw[t7 hok],by rw[t7 hok]⟩;have e:OG (B++[last])=OG (C++[[]]):=by rw[hts,hC.1,Wk];simp
    have h1:=Qg hno;have h2:AT 10 (OG (C++[[]]))=C++[[]]++[[]]:=Qg fun x hx=>by
     rcases cf.1 hx with hx|hx
     ·exact(hC.2 x hx).2
     ·rw[ct.1 hx];simp
    rw[e,h2]at h1;have h3:=mi h1;have h4:=List.append_inj' h3 rfl;exact⟨by simpa using h4.2.symm,fun x hx=>(hC.2 x (h4.1▸hx)).1⟩
  ·right;have hn: ∀m',m++[c]≠m'++[10]:=fun m' e=>hc (by simpa using pz e rfl);refine⟨fun B h=>hn _ h.1,?_,?_⟩
   ·unfold Dk;simp only[uO _ (by omega) (by simp) hn,aa,FL]
    rfl
   ·unfold NW;obtain⟨init,last,pre,h1,h2,h3,h4⟩:=Zu 10 (m++[c]);have hle:=XV (c:=10) (m++[c]);rw[h1,an,lh]at hle;have hlast:last≠[]:=by
     rintro rfl;rw[ei]at h2;rcases h4 with ⟨rfl,_⟩|⟨q,rfl,_⟩
     ·simp at h2
     ·exact hn q h2
    have e1:((GS.mk (init++[last])).l.length:Int)-1=(init.length:Nat):=by simp
    have i1:DN (GS.mk (init++[last])).l ((init.length:Nat):Int)=some last:=by rw[By];simp
    simp only[HJ (m++[c]) 10 (by omega),h1,aa,FL,e1];rw[B6 (by omega),i1];have hd:decide (last=[])=false:=by simpa using hlast
    by_cases h2':((GS.mk (init++[last])).l.length:Int)<2
    ·simp only[h2',decide_true,uc,aa]
    ·simp only[h2',decide_false,ah,ud,aa,hd,ju,uc]
theorem mK(B:List AP)(hB: ∀x∈B,x.length<1073741824): ∃g h e,AbP (.mk B)=some (g,e)∧AbO (.mk B)=some (h,e)∧h.l=g.l.map convP∧
  ((e≠0∧g= .nil)∨(e=0∧B=g.l.map Ds∧B.length≤400∧ ∀p∈g.l,Sb (Ds p) p.Key p.Value))∧(400<B.length→e=4)∧(B.length≤400→(∀x∈B,∃k v,Sb x k v)→e=0):=by
 unfold AbP AbO
 by_cases h4:400<B.length
 ·rw[t6 (by rw[t8,C0];omega),t6 (by rw[t8,C0];omega)];exact⟨.nil, .nil,4,rfl,rfl,rfl, .inl ⟨by decide,rfl⟩,fun _=>rfl,fun h=>by omega⟩
 rw[t7 (by rw[t8,C0];omega),t7 (by rw[t8,C0];omega)];obtain⟨b,c,f1,f2,hq⟩:=iter_rel (F:=stepL (.mk B)) (G:=stepR (.mk B)) (fun s=>B.length-s.1.toNat)
  (fun s t=> ∃n:Nat,s.1=n∧t.1=n∧n≤B.length∧t.2.l=s.2.l.map convP∧B.take n=s.2.l.map Ds∧ ∀p∈s.2.l,Sb (Ds p) p.Key p.Value)
  (fun b c=>(∃g h,b= .inl g∧c= .inl h∧h.l=g.l.map convP∧B=g.l.map Ds∧ ∀p∈g.l,Sb (Ds p) p.Key p.Value)∨ ∃e:Int,e≠0∧b= .inr (.nil,e)∧c= .inr (.nil,e)∧ ¬ ∀x∈B,∃k v,Sb x k v) (by
   rintro⟨s,g⟩ ⟨t,h⟩ ⟨n,rfl,rfl,h1,h2,h3,h5⟩;dsimp only at h2 h3 h5 ⊢;unfold stepL stepR;dsimp only;have hgl:g.l.length=n:=by
    have:=ue jd h3;rw[aq,cj]at this;omega
   by_cases hn:n<B.length
   ·rw[t6 (by simpa using hn),t6 (by simpa using hn),By,C0,ab hn];obtain⟨k,v,c,p1,p2,hs⟩:=parse_val B[n] (hB _ (eu hn));simp only[aa,p1,p2];rcases hs with ⟨rfl,hs⟩|⟨hc,rfl,rfl,hno⟩
    ·left;rw[JE (by unfold Ci;omega),JE (by rw[h2,cj];unfold Ci;omega),show(n:Int)+1=((n+1:Nat):Int) by omega,B6 (by omega)];refine⟨(((n+1:Nat):Int), .mk (g.l++[⟨k,v⟩])),(((n+1:Nat):Int), .mk (h.l++[⟨k,v⟩])),by simp,by simp,⟨n+1,rfl,rfl,by omega,?_,?_,?_⟩,by dsimp only;omega⟩
     ·simp only[C0,df,h2];rfl
     ·rw[bf hn,h3];simp only[C0,df,la,Ds,←hs.1]
     ·intro p hp;rcases cf.1 hp with hp|hp
      ·exact h5 p hp
      ·rw[ct.1 hp];show Sb (k++61::v) k v;rw[←hs.1];exact hs
    ·right;have hd:(!decide (c=0))=true:=by simpa using hc
     simp only[hd,uc];refine⟨_,_,rfl,rfl, .inr ⟨c,hc,rfl,rfl,fun hall=> ?_⟩⟩;obtain⟨k,v,hs⟩:=hall _ (eu hn);exact hno k v hs
   ·right;rw[t7 (by simpa using hn),t7 (by simpa using hn)];rw[au (by omega)]at h3;exact⟨_,_,rfl,rfl, .inl ⟨g,h,rfl,rfl,h2,h3,h5⟩⟩) (s:=(0, .nil)) (t:=(0, .nil)) ⟨0,rfl,rfl,by omega,rfl,rfl,by simp⟩
 rw[f1,f2];rcases hq with ⟨g,h,rfl,rfl,h1,h2,h3⟩|⟨e,he,rfl,rfl,hno⟩
 ·exact⟨g,h,0,rfl,rfl,h1, .inr ⟨rfl,h2,by omega,h3⟩,fun h=>absurd h h4,fun _ _=>rfl⟩
 ·exact⟨.nil, .nil,e,rfl,rfl,rfl, .inl ⟨he,rfl⟩,fun h=>absurd h h4,fun _ h=>absurd h hno⟩
theorem xJ{s:AP}{B:List AP}(h:yB s B): ∀x∈B,x.length≤s.length:=by
 intro x hx;obtain⟨a,b,rfl⟩:=List.append_of_mem hx;rw[h.1,pC,NM];simp;omega
theorem read_both(s:AP)(hl:s.length<1073741000): ∃g h e,Dk s=some (g,e)∧NW s=some (h,e)∧h.l=g.l.map convP∧
  ((e≠0∧g= .nil)∨(e=0∧s=OG (g.l.map Ds)++[10]∧g.l.length≤400∧ ∀p∈g.l,Sb (Ds p) p.Key p.Value)):=by
 rcases mL s hl with ⟨B,hB,e1,e2⟩|⟨_,e1,e2⟩
 ·obtain⟨g,h,e,r1,r2,r3,r4,_,_⟩:=mK B fun x hx=>by have:=xJ hB x hx;omega
  refine⟨g,h,e,e1.trans r1,e2.trans r2,r3,?_⟩;rcases r4 with r4|⟨a,b,c,d⟩
  ·exact .inl r4
  ·exact .inr ⟨a,by rw[←b];exact hB.1,by rw[b,cj]at c;exact c,d⟩
 ·exact⟨.nil, .nil,5,e1,e2,rfl, .inl ⟨by decide,rfl⟩⟩
theorem line_inj{p q:At}(e:Ds p=Ds q)(hp:Sb (Ds p) p.Key p.Value)(hq:Sb (Ds q) q.Key q.Value):p=q:=by
 obtain⟨h1,h2⟩:=dC e hp.2.1 hq.2.1;cases p;cases q;simp only at h1 h2;rw[h1,h2]
theorem nI: ∀{l m:List At},l.map Ds=m.map Ds→(∀p∈l,Sb (Ds p) p.Key p.Value)→(∀p∈m,Sb (Ds p) p.Key p.Value)→l=m
 |[],[],_,_,_=>rfl
 |p::l,q::m,e,h,g=>by
  simp only[bh,gr]at e;rw[line_inj e.1 (h p bg) (g q bg),nI e.2 (fun x hx=>h x (a8 _ hx)) fun x hx=>g x (a8 _ hx)]
theorem read_of{l:List At}(h: ∀p∈l,Sb (Ds p) p.Key p.Value)(hl:l.length≤400): ∃g,Dk (OG (l.map Ds)++[10])=some (g,0)∧g.l=l:=by
 have hb:yB (OG (l.map Ds)++[10]) (l.map Ds):=⟨rfl,fun x hx=>by
  obtain⟨p,hp,rfl⟩:=eh.1 hx;exact⟨by simp[Ds],(h p hp).2.2.2.1⟩⟩
 have hlen:=nJ (fun p hp=>badP_of (h p hp)) hl;rcases mL (OG (l.map Ds)++[10]) (by simp;omega)with ⟨B,hB,e1,_⟩|⟨hno,_⟩
 ·obtain rfl:=hB.uniq hb;obtain⟨g,_,e,r1,_,_,r4,_,r6⟩:=mK (l.map Ds) fun x hx=>by
   obtain⟨p,hp,rfl⟩:=eh.1 hx;have:=(h p hp).2.2.2.2;omega
  have he:e=0:=r6 (by rw[cj];exact hl) fun x hx=>by
   obtain⟨p,hp,rfl⟩:=eh.1 hx;exact⟨_,_,h p hp⟩
  subst he;rcases r4 with ⟨r4,_⟩|⟨_,b,_,d⟩
  ·exact absurd rfl r4
  ·exact⟨g,e1.trans r1,nI b.symm d h⟩
 ·exact absurd hb (hno _)
end
section
def My:Nat→Nat→AP
 |0,_=>[]
 |k+1,n=>if n<10 then [bb (48+n)]else My k (n/10)++[bb (48+n%10)]
def Dt(n:Nat):AP:=My 20 n
theorem hY: ∀(k n:Nat),n<10^(k+1)→My (k+2) n=My (k+1) n
 |0,n,h=>by
  have h:n<10:=by simpa using h
  simp[My,h]
 |k+1,n,h=>by
  by_cases hn:n<10
  ·simp[My,hn]
  ·have hd:n/10<10^(k+1):=by
    rw[jn (by decide),←i8];exact h
   have ih:=hY k (n/10) hd;rw[My,t7 hn,ih]
   conv=>rhs;rw[My,t7 hn]
theorem digs_eq{n:Nat}(h:n<18446744073709551616):Dt n=if n<10 then [bb (48+n)]else Dt (n/10)++[bb (48+n%10)]:=by
 unfold Dt;rw[hY 18 (n/10) (by omega)]
 rfl
theorem oF: ∀(k n:Nat),(My k n).length≤k
 |0,_=>by simp[My]
 |k+1,n=>by
  rw[My]
  split
  ·simp
  ·simp[oF k]
theorem QG(n:Nat):(Dt n).length≤20:=oF 20 n
theorem u8_of{m:Nat}(h:m<256):ib.ofI (m:Int)=bb m:=by
 show bb ((m:Int)%256).toNat=_;rw[show((m:Int)%256).toNat=m by omega]
def YF{α:Type}:List α→GS α
 |[]=> .nil
 |x::l=> .mk (x::l)
theorem Ty{α:Type}: ∀l:List α,(YF l).l=l
 |[]=>rfl
 |_::_=>rfl
theorem Tx{α:Type}: ∀(l:List α) (x:α),YF (l++[x])= .mk (l++[x])
 |[],_=>rfl
 |_::_,_=>rfl
theorem pairs_val(l:GS Aq)(ps:List (At×Int))(h:l.l.map Of=ps.map some)(hl:l.l.length<1000000000):K3 l=some (YF (ps.map (·.1))):=by
 have hlen:l.l.length=ps.length:=by have:=ue jd h;simpa using this
 unfold K3;refine CP (fun s=>l.l.length-s.1.toNat) (fun s=> ∃n:Nat,s.1=n∧n≤l.l.length∧s.2=YF ((ps.take n).map (·.1))) (fun r=>r= .inl (YF (ps.map (·.1)))) ⟨0,rfl,by omega,rfl⟩ ?_ ?_
 rotate_left
 ·rintro _ rfl;rfl
 ·rintro⟨s,b⟩ ⟨n,rfl,h1,h2⟩;dsimp only at h2 ⊢;subst h2
  by_cases hn:n<l.l.length
  ·rw[t6 (by simpa using hn),By,ab hn];have hp:Of l.l[n]=some (ps[n]'(by omega)):=by
    have:=ue (fun x=>x[n]?) h;simp only[ge,ab hn,ab (show n<ps.length by omega),ak,ae]at this;exact this
   have hbl:(YF ((ps.take n).map (·.1))).l.length=n:=by rw[Ty,cj,aq];omega
   left;simp only[aa,hp];rw[JE (by unfold Ci;omega),show(n:Int)+1=((n+1:Nat):Int) by omega,B6 (by omega)];refine⟨_,rfl,⟨n+1,rfl,by omega,?_⟩,by dsimp only;omega⟩;rw[bf (by omega),df,Ty];exact(Tx _ _).symm
  ·right;rw[t7 (by simpa using hn)];exact⟨_,rfl,by rw[au (by omega)]⟩
def ON(n:Nat):Aq:=⟨16,(aw 32 bi).z,d7 n,Aw.z,Al.z⟩
end
section
def pad:Nat→Nat→AP
 |0,_=>[]
 |w+1,n=>pad w (n/10)++[bb (48+n%10)]
theorem wS: ∀(N k n:Nat),N<k→n<10^(N+1)→(N=0∨10^N≤n)→My k n=pad (N+1) n
 |0,k+1,n,_,h,_=>by
  have hn:n<10:=by simpa using h
  rw[My,t6 hn];simp[pad,j3 hn]
 |N+1,k+1,n,hk,h,h'=>by
  have h1:10^(N+1)≤n:=h'.resolve_left (by omega);have h10:10≤n:=dj (by rw[i8];have:=ov (n:=N) (show 0<10 by decide);omega) h1;rw[My,t7 (by omega),wS N k (n/10) (by omega) ((jn (by decide)).2 (by rw[←i8];exact h)) (.inr ((li (by decide)).2 (by rw[←i8];exact h1)))]
  rfl
theorem LP{m:Nat}(h:m<18446744073709551616):(Cw (m:Int)).toNat=m:=u64N h
theorem QW{m:Nat}(h:m<4294967296):(CJ (m:Int)).toNat=m:=by
 show(pm ((m:Int)%4294967296).toNat).toNat=m;rw[show((m:Int)%4294967296).toNat=m by omega];simp[UInt32.toNat_ofNat,h]
theorem mod64(x c:UInt64)(hc:0<c.toNat): ∃y:UInt64,(if(c.toNat:Int)=0 then none else some (Cw (j6 (x.toNat:Int) (c.toNat:Int))))=some y∧y.toNat=x.toNat%c.toNat:=
 ⟨_,t7 (by omega),by rw[←oj,LP (by have:=x.toNat_lt;have:=Nat.mod_le x.toNat c.toNat;omega)]⟩
theorem div64(x c:UInt64)(hc:0<c.toNat): ∃y:UInt64,(if(c.toNat:Int)=0 then none else some (Cw (jt (x.toNat:Int) (c.toNat:Int))))=some y∧y.toNat=x.toNat/c.toNat:=
 ⟨_,t7 (by omega),by rw[←m7,LP (by have:=x.toNat_lt;have:=lb x.toNat c.toNat;omega)]⟩
theorem nG(x c:UInt32)(hc:0<c.toNat): ∃y:UInt32,(if(c.toNat:Int)=0 then none else some (CJ (j6 (x.toNat:Int) (c.toNat:Int))))=some y∧y.toNat=x.toNat%c.toNat:=
 ⟨_,t7 (by omega),by rw[←oj,QW (by have:=x.toNat_lt;have:=Nat.mod_le x.toNat c.toNat;omega)]⟩
theorem oE(x c:UInt32)(hc:0<c.toNat): ∃y:UInt32,(if(c.toNat:Int)=0 then none else some (CJ (jt (x.toNat:Int) (c.toNat:Int))))=some y∧y.toNat=x.toNat/c.toNat:=
 ⟨_,t7 (by omega),by rw[←m7,QW (by have:=x.toNat_lt;have:=lb x.toNat c.toNat;omega)]⟩
theorem iA(x:UInt32)(h:x.toNat<1000):(CJ ((x.toNat:Int)*((2:UInt32).toNat:Int))).toNat=2*x.toNat:=by
 rw[show((x.toNat:Int)*((2:UInt32).toNat:Int))=((2*x.toNat:Nat):Int) by rw[show((2:UInt32).toNat:Int)=2 from rfl];omega,QW (by omega)]
theorem inc32(x:UInt32)(h:x.toNat<1000):((CJ ((x.toNat:Int)+((1:UInt32).toNat:Int))).toNat:Int)=((x.toNat+1:Nat):Int):=by
 rw[show((x.toNat:Int)+((1:UInt32).toNat:Int))=((x.toNat+1:Nat):Int) by rw[show((1:UInt32).toNat:Int)=1 from rfl];omega,QW (by omega)]
def pQ:AP:=[48,48,48,49,48,50,48,51,48,52,48,53,48,54,48,55,48,56,48,57,49,48,49,49,49,50,49,51,49,52,49,53,49,54,49,55,49,56,49,57,50,48,50,49,50,50,50,51,50,52,50,53,50,54,50,55,50,56,50,57,51,48,51,49,51,50,51,51,51,52,51,53,51,54,51,55,51,56,51,57,52,48,52,49,52,50,52,51,52,52,52,53,52,54,52,55,52,56,52,57,53,48,53,49,53,50,53,51,53,52,53,53,53,54,53,55,53,56,53,57,54,48,54,49,54,50,54,51,54,52,54,53,54,54,54,55,54,56,54,57,55,48,55,49,55,50,55,51,55,52,55,53,55,54,55,55,55,56,55,57,56,48,56,49,56,50,56,51,56,52,56,53,56,54,56,55,56,56,56,57,57,48,57,49,57,50,57,51,57,52,57,53,57,54,57,55,57,56,57,57]
theorem yL: ∀k:Fin 100,pQ[2*k.1+1]? =some (bb (48+k.1%10))∧pQ[2*k.1]? =some (bb (48+k.1/10)):=by decide+kernel
def kO(A:Ar UInt8 24)(o k:Nat):Ar UInt8 24:=(A.set (o+1) (bb (48+k%10))).set o (bb (48+k/10))
theorem Rn{N i o k:Nat}{A:Ar UInt8 24}{x:UInt32}{c d:Int}{γ:Type}{K:Ar UInt8 24→Option γ}(hN:N≤24)(hi:i≤N)(hx:x.toNat=2*k)(hk:k<100)(hc:(i:Int)-c=((o+1:Nat):Int))(hd:(i:Int)-d=(o:Nat))(ho:o+1<N):
  ((DN pQ ((CJ ((x.toNat:Int)+((1:UInt32).toNat:Int))).toNat:Int)).bind fun y=>(DN pQ (x.toNat:Int)).bind fun z=>
   (if 0+N*1≤24 then Dl N (tx tz ((i:Int)-c))else none).bind fun p=>(if p<24 then some (A.set p y)else none).bind fun B=>
   (if 0+N*1≤24 then Dl N (tx tz ((i:Int)-d))else none).bind fun q=>(if q<24 then some (B.set q z)else none).bind K)=K (kO A o k):=by
 obtain⟨g1,g2⟩:=yL ⟨k,hk⟩;rw[inc32 x (by omega),hx,By,By,g1,g2,hc,hd,B6 (by omega),B6 (by omega),t6 (by omega),t6 (by omega),E7 (by omega),E7 (by omega)];simp only[aa];rw[t6 (by omega)];simp only[aa];rw[t6 (by omega)]
 rfl
def bW(N a i u:Nat)(A:Ar UInt8 24):Prop:=i≤N∧u<10^i∧pad N a=pad i u++(A.l.take N).drop i
theorem setTwo{l:List UInt8}{N o:Nat}{x y:UInt8}(h:o+1<N)(hl:N≤l.length):(((l.set (o+1) y).set o x).take N).drop o=x::y::(l.take N).drop (o+2):=by
 apply ew;intro j;rw[gj,dn,i7,i7]
 match j with
 |0=>simp;omega
 |1=>simp;omega
 |j+2=>
  simp only[di,gj,dn];rw[t7 (show¬o=o+(j+2) by omega),t7 (show¬o+1=o+(j+2) by omega),show o+(j+2)=o+2+j by omega]
theorem bW.two{N a i u o k:Nat}{A:Ar UInt8 24}(h:bW N a i u A)(hN:N≤24)(ho:i=o+2)(hk:k=u%100):bW N a o (u/100) (kO A o k):=by
 obtain⟨h1,h2,h3⟩:=h;subst ho hk;refine⟨by omega,?_,?_⟩
 ·rw[jn (by decide)];rw[show 10^o*100=10^(o+2) by rw[i8,i8,Nat.mul_assoc]];exact h2
 ·have hs:((kO A o (u%100)).l.take N).drop o=bb (48+u%100/10)::bb (48+u%100%10)::(A.l.take N).drop (o+2):=setTwo (by omega) (by rw[A.len];exact hN);rw[hs,h3];simp only[pad,br,cd,dt];rw[show u/10/10=u/100 by omega,show u/10%10=u%100/10 by omega,show u%10=u%100%10 by omega]
theorem bW.one{N a i u:Nat}{A:Ar UInt8 24}(h:bW N a i u A)(hN:N≤24)(hi:i=1):bW N a 0 0 (A.set 0 (bb (48+u))):=by
 obtain⟨h1,h2,h3⟩:=h;subst hi;have hu:u<10:=by simpa using h2
 refine⟨by omega,by simp,?_⟩;rw[h3];have:(A.set 0 (bb (48+u))).l=A.l.set 0 (bb (48+u)):=rfl;rw[this];cases hA:A.l with
 |nil=>have:=A.len;rw[hA]at this;simp at this
 |cons y l=>
  match N,h1 with
  |N+1,_=>simp[pad,j3 hu]
theorem shr64(x c:UInt64)(hc:c.toNat<64): ∃y:UInt64,(if(c.toNat:Int)<0 then none else some (Cw (kw (x.toNat:Int) (2^(min ((c.toNat:Int).toNat) 64)))))=some y∧y.toNat=x.toNat/2^c.toNat:=by
 refine⟨_,t7 (by omega),?_⟩;rw[m6,fq (by omega),show(2:Int)^c.toNat=((2^c.toNat:Nat):Int) by push_cast;rfl,←qv,LP];exact j7 (lb _ _) (by have:=x.toNat_lt;omega)
theorem pD{γ:Type}{x c b:UInt64}{n:Nat}{d e:Int}{K:UInt64×Int→Option γ}{r:Option γ}(hb:b.toNat=2^c.toNat)(hc:c.toNat<64)(hd:d=(n:Nat))(he:e=((n+c.toNat:Nat):Int))
  (hK: ∀(y:UInt64) (k:Nat),k≤c.toNat→y.toNat=x.toNat/2^k→(1≤x.toNat→1≤y.toNat)→(x.toNat<2^c.toNat*2^c.toNat→y.toNat<2^c.toNat)→K (y,((n+k:Nat):Int))=r):
  ((if(decide ((b.toNat:Int)≤(x.toNat:Int)))=true then
   (if(c.toNat:Int)<0 then none else some (Cw (kw (x.toNat:Int) (2^(min ((c.toNat:Int).toNat) 64))))).bind fun z=>some (.inl (z,e))
   else some (.inl (x,d)):Option ((UInt64×Int)⊕γ)).bind (bd K some))=r:=by
 by_cases h:b.toNat≤x.toNat
 ·rw[t6 (by simpa using h)];obtain⟨y,e1,e2⟩:=shr64 x c hc;rw[e1,he];refine hK y c.toNat (bc _) e2 (fun _=> ?_) (fun h2=> ?_)
  ·rw[e2,li (ov (by decide)),sw,←hb];exact h
  ·rw[e2];exact(jn (ov (by decide))).2 h2
 ·rw[t7 (by simpa using h),hd];exact hK x 0 (dz _) (by simp) id (fun _=>by omega)
def len8:AP:=[0,1,2,2,3,3,3,3,4,4,4,4,4,4,4,4,5,5,5,5,5,5,5,5,5,5,5,5,5,5,5,5]++az 32 6++az 64 7++az 128 8
theorem len8_get: ∀v:Fin 256,∃t,len8[v.1]? =some t∧(1≤v.1→v.1<2^t.toNat∧2^(t.toNat-1)≤v.1∧1≤t.toNat∧t.toNat≤8):=by
 have key: ∀v:Fin 256,(match len8[v.1]? with|some t=>decide (1≤v.1→v.1<2^t.toNat∧2^(t.toNat-1)≤v.1∧1≤t.toNat∧t.toNat≤8)|none=>false)=true:=by decide+kernel
 intro v;have:=key v
 split at this
 ·rename_i t e;exact⟨t,e,of_decide_eq_true this⟩
 ·cases this
set_option maxRecDepth 20000 in
theorem len64_val(a:UInt64)(h:1≤a.toNat): ∃L:Nat,H9 a=some (L:Int)∧1≤L∧L≤64∧a.toNat<2^L∧2^(L-1)≤a.toNat:=by
 have ha:=a.toNat_lt;have key: ∀r,(∀L:Nat,1≤L→L≤64→a.toNat<2^L→2^(L-1)≤a.toNat→r=some (L:Int))→H9 a=r:=by
  intro r hr;unfold H9;refine pD (n:=0) (c:=32) (b:=4294967296) rfl (by decide) rfl rfl fun y1 k1 g1 e1 p1 q1=> ?_;refine pD (n:=0+k1) (c:=16) (b:=65536) rfl (by decide) rfl (by rw[show(16:UInt64).toNat=16 from rfl,show(32:UInt64).toNat=32 from rfl]at*;rw[lV (by omega) (by omega)];push_cast;rfl) fun y2 k2 g2 e2 p2 q2=> ?_;refine pD (n:=0+k1+k2) (c:=8) (b:=256) rfl (by decide) rfl (by rw[show(8:UInt64).toNat=8 from rfl,show(16:UInt64).toNat=16 from rfl,show(32:UInt64).toNat=32 from rfl]at*;rw[lV (by omega) (by omega)];push_cast;rfl) fun y3 k3 g3 e3 p3 q3=> ?_;rw[show(8:UInt64).toNat=8 from rfl]at g3 q3;rw[show(16:UInt64).toNat=16 from rfl]at g2 q2;rw[show(32:UInt64).toNat=32 from rfl]at g1 q1;have b3:y3.toNat<2^8:=q3 (q2 (q1 (by simpa using ha)));have hy3:1≤y3.toNat:=p3 (p2 (p1 h));have hv:y3.toNat=a.toNat/2^(k1+k2+k3):=by rw[e3,e2,e1,k9,k9,←qw,←qw,iw]
  obtain⟨t,ht,h1⟩:=len8_get ⟨y3.toNat,b3⟩;dsimp only at ht h1;obtain⟨h2,h3,h4,h5⟩:=h1 hy3;have hu8:((Kx (y3.toNat:Int)).toNat:Int)=(y3.toNat:Int):=by
   show((bb ((y3.toNat:Int)%256).toNat).toNat:Int)=_;rw[show((y3.toNat:Int)%256).toNat=y3.toNat by omega,gi];omega
  dsimp only;rw[hu8];show(DN len8 (y3.toNat:Int)).bind _=r;rw[By,ht];simp only[aa];rw[B6 (by omega),lV (by omega) (by omega),show((0+k1+k2+k3:Nat):Int)+(t.toNat:Int)=((k1+k2+k3+t.toNat:Nat):Int) by omega];rw[hv]at h2 h3;refine(hr _ (by omega) (by omega) ?_ ?_).symm
  ·rw[jn (ov (by decide)),←qw,pn]at h2;exact h2
  ·rw[li (ov (by decide)),←qw]at h3;rw[show k1+k2+k3+t.toNat-1=t.toNat-1+(k1+k2+k3) by omega];exact h3
 have hex: ∃L:Nat,1≤L∧L≤64∧a.toNat<2^L∧2^(L-1)≤a.toNat:=by
  refine⟨a.toNat.log2+1,by omega,?_,Nat.lt_log2_self,Nat.log2_self_le (by omega)⟩;have:=(Nat.log2_lt (by omega:a.toNat≠0) (k:=64)).2 (by simpa using ha);omega
 obtain⟨L,l1,l2,l3,l4⟩:=hex;refine⟨L,key _ fun M m1 m2 m3 m4=> ?_,l1,l2,l3,l4⟩;have hLM: ∀{A B:Nat},a.toNat<2^A→2^(B-1)≤a.toNat→B≤A:=fun{A B} x y=>by
  have:2^(B-1)<2^A:=j7 y x;have:=(Nat.pow_lt_pow_iff_right (by decide:1<2)).1 this;omega
 have:L=M:=Nat.le_antisymm (hLM m3 l4) (hLM l3 m4);rw[this]
theorem log_get: ∀L:Fin 65,∃p:UInt64,Aa9.l[L.1*78913/262144]? =some p∧p.toNat=10^(L.1*78913/262144)∧(1≤L.1→2^L.1≤10^(L.1*78913/262144+1)∧10^(L.1*78913/262144-1)≤2^(L.1-1))∧L.1*78913/262144≤19:=by
 have key: ∀L:Fin 65,(match Aa9.l[L.1*78913/262144]? with|some p=>decide (p.toNat=10^(L.1*78913/262144)∧(1≤L.1→2^L.1≤10^(L.1*78913/262144+1)∧10^(L.1*78913/262144-1)≤2^(L.1-1))∧L.1*78913/262144≤19)|none=>false)=true:=by decide+kernel
 intro L;have:=key L
 split at this
 ·rename_i p e;exact⟨p,e,of_decide_eq_true this⟩
 ·cases this
theorem kR(a:UInt64)(h:100≤a.toNat): ∃N:Nat,DX a=some ((N+1:Nat):Int)∧N<20∧10^N≤a.toNat∧a.toNat<10^(N+1):=by
 obtain⟨L,e1,l1,l2,l3,l4⟩:=len64_val a (by omega);obtain⟨p,e2,e3,e4,e5⟩:=log_get ⟨L,by omega⟩;obtain⟨e4,e6⟩:=e4 l1;dsimp only at e2 e3 e4 e5 e6;have hl:DY (L:Int)=some ((L*78913/262144:Nat):Int):=by
  unfold DY;rw[t7 (by decide),show((L:Int)*78913)=((L*78913:Nat):Int) by omega,B6 (by omega),show((2:Int)^(min ((18:UInt64).toNat:Int).toNat 64))=((262144:Nat):Int) by rfl,←qv]
  rfl
 generalize L*78913/262144=k at*;unfold DX;simp only[e1,hl,aa,By,e2,FO,e3]
 by_cases hp:10^k≤a.toNat
 ·rw[t6 (ua (n5.2 hp))];refine⟨k,?_,by omega,hp,dv l3 e4⟩;simp only[aa];rw[show((k:Nat):Int)+1=((k+1:Nat):Int) by omega,B6 (by omega)]
 ·rw[t7 (by rw[t8];exact fun h=>hp (n5.1 h))];have hpos:1≤k:=by
   rcases ez k with h0|h0
   ·rw[h0]at hp;simp at hp;omega
   ·exact h0
  refine⟨k-1,?_,by omega,dj e6 l4,?_⟩
  ·simp only[aa];rw[show((k:Nat):Int)+0=((k-1+1:Nat):Int) by omega,B6 (by omega)]
  ·rw[show k-1+1=k by omega];omega
theorem AaX{n m:Nat}(h:m≤n):((SV n none (some (m:Int))).map fun p=>p.2)=some m:=by
 simp[SV,h]
theorem bind_of{α β:Type}{x:Option α}{K:α→Option β}{r:Option β}(Q:α→Prop)(h: ∃b,x=some b∧Q b)(k: ∀b,Q b→K b=r):x.bind K=r:=by
 obtain⟨b,rfl,hb⟩:=h;exact k b hb
theorem sE{α β:Type}{x:Option α}{K:α→Option β}{Q:β→Prop}(R:α→Prop)(h: ∃b,x=some b∧R b)(k: ∀b,R b→ ∃c,K b=some c∧Q c): ∃c,x.bind K=some c∧Q c:=by
 obtain⟨b,rfl,hb⟩:=h;exact k b hb
theorem iter_ex{σ β γ:Type}{F:σ→Option (σ⊕β)}{K:β→Option γ}{Q':γ→Prop}{s:σ}(m:σ→Nat)(I:σ→Prop)(Q:β→Prop)(h:I s)
  (step: ∀s,I s→(∃s',F s=some (.inl s')∧I s'∧m s'<m s)∨ ∃b,F s=some (.inr b)∧Q b) (fin: ∀b,Q b→ ∃c,K b=some c∧Q' c): ∃c,(iter F s).bind K=some c∧Q' c:=
 sE Q (K0 m I Q step h) fin
theorem bW.end{N a u:Nat}{A:Ar UInt8 24}(h:bW N a 0 u A):A.l.take N=pad N a:=by
 have:=h.2.2;simp[pad]at this;exact this.symm
theorem pow_lt32{i u:Nat}(h:u<10^i)(hi:i<9):u<4294967296:=mb h (j7 (qx (by decide) (show i≤8 by omega)) (by decide))
set_option maxHeartbeats 4000000 in
set_option maxRecDepth 20000 in
theorem AaC(a:UInt64)(h:100≤a.toNat):Cz a 10=some (Dt a.toNat):=by
 have halt:=a.toNat_lt;obtain⟨M,e1,hM,l1,l2⟩:=kR a h;have hM1:1≤M:=by
  rcases ez M with h0|h0
  ·subst h0;simp at l2;omega
  ·exact h0
 have hdig:Dt a.toNat=pad (M+1) a.toNat:=wS M 20 a.toNat (by omega) l2 (.inr l1);generalize hN:M+1=N at*;unfold Cz;rw[t6 (by decide)];dsimp only;rw[t7 (by rw[t8,show((100:UInt64).toNat:Int)=100 from rfl];omega),e1,aa,AaX (by omega),aa];have e100:(100:UInt32).toNat=100:=rfl;have e10k:(10000:UInt32).toNat=10000:=rfl;have e100m:(100000000:UInt64).toNat=100000000:=rfl;refine bind_of (fun A:Ar UInt8 24=>A.l.take N=pad N a.toNat) ?_ fun A hA=>by
  rw[aa];simp only[frzO];rw[t6 (by omega)];simp only[aa,dq,C0,hA,hdig]
 refine iter_ex (fun s=>s.2.1.toNat) (fun s:UInt64×Int×Ar UInt8 24=> ∃i:Nat,s.2.1=i∧bW N a.toNat i s.1.toNat s.2.2)
  (fun r=> ∃(i:Nat) (u:UInt64) (A:Ar UInt8 24),r= .inl (u,(i:Int),A)∧i<8∧bW N a.toNat i u.toNat A) ⟨N,rfl,bc _,l2,by
   rw[fi (by rw[aq];omega),ei]⟩ ?_ ?_
 ·rintro⟨u,s,A⟩ ⟨i,rfl,hd⟩;dsimp only at hd ⊢;have hiN:=hd.1
  by_cases hi:8≤i
  ·left;rw[t6 (by rw[t8];omega)];obtain⟨x13,f13,v13⟩:=mod64 u 100000000 (by decide);obtain⟨x15,f15,v15⟩:=div64 u 100000000 (by decide);rw[f13,f15,aa,aa];rw[e100m]at v13 v15;have b13:x13.toNat<4294967296:=by omega
   have w13:=QW b13;obtain⟨x16,f16,v16⟩:=oE (CJ (x13.toNat:Int)) 10000 (by decide);obtain⟨x17,f17,v17⟩:=nG (CJ (x13.toNat:Int)) 10000 (by decide);rw[f16,f17,aa,aa];rw[w13,e10k,v13]at v16 v17;obtain⟨x18,f18,v18⟩:=oE x17 100 (by decide);obtain⟨x20,f20,v20⟩:=nG x17 100 (by decide);obtain⟨x22,f22,v22⟩:=oE x16 100 (by decide);obtain⟨x24,f24,v24⟩:=nG x16 100 (by decide);rw[f18,f20,f22,f24,aa,aa,aa,aa];rw[e100,v17]at v18 v20;rw[e100,v16]at v22 v24;refine⟨(x15,((i-8:Nat):Int),kO (kO (kO (kO A (i-2) (u.toNat%100)) (i-4) (u.toNat/100%100)) (i-6) (u.toNat/100/100%100)) (i-8) (u.toNat/100/100/100%100)),?_,⟨i-8,rfl,?_⟩,by dsimp only;omega⟩
   ·refine(Rn (N:=N) (i:=i) (o:=i-2) (k:=u.toNat%100) (by omega) hiN (by rw[iA _ (by omega)];omega) (by omega) (by omega) (by omega) (by omega)).trans ?_;refine(Rn (N:=N) (i:=i) (o:=i-4) (k:=u.toNat/100%100) (by omega) hiN (by rw[iA _ (by omega)];omega) (by omega) (by omega) (by omega) (by omega)).trans ?_;refine(Rn (N:=N) (i:=i) (o:=i-6) (k:=u.toNat/100/100%100) (by omega) hiN (by rw[iA _ (by omega)];omega) (by omega) (by omega) (by omega) (by omega)).trans ?_;refine(Rn (N:=N) (i:=i) (o:=i-8) (k:=u.toNat/100/100/100%100) (by omega) hiN (by rw[iA _ (by omega)];omega) (by omega) (by omega) (by omega) (by omega)).trans ?_;rw[show((i:Nat):Int)-8=((i-8:Nat):Int) by omega,B6 (by omega)]
   ·rw[show x15.toNat=u.toNat/100/100/100/100 by omega];exact(((hd.two (by omega) (by omega) rfl).two (i:=i-2) (o:=i-4) (by omega) (by omega) rfl).two (i:=i-4) (o:=i-6) (by omega) (by omega) rfl).two (i:=i-6) (o:=i-8) (by omega) (by omega) rfl
  ·right;rw[t7 (by rw[t8];omega)];exact⟨_,rfl,i,u,A,rfl,by omega,hd⟩
 ·rintro _ ⟨i,u,A,rfl,hi,hd⟩;have hiN:=hd.1;have hu32:=pow_lt32 hd.2.1 (by omega);have wu:=QW hu32;refine sE (fun r=> ∃(i:Nat) (w:UInt32) (A:Ar UInt8 24),r= .inl ((i:Int),w,A)∧i<4∧bW N a.toNat i w.toNat A) ?_ ?_
  ·dsimp only
   by_cases h4:4≤i
   ·rw[t6 (by rw[t8];omega)];obtain⟨x88,f88,v88⟩:=nG (CJ (u.toNat:Int)) 10000 (by decide);obtain⟨x89,f89,v89⟩:=oE (CJ (u.toNat:Int)) 10000 (by decide);rw[f88,f89,aa,aa];rw[wu,e10k]at v88 v89;obtain⟨x90,f90,v90⟩:=oE x88 100 (by decide);obtain⟨x92,f92,v92⟩:=nG x88 100 (by decide);rw[f90,f92,aa,aa];rw[e100,v88]at v90 v92;refine⟨.inl (((i-4:Nat):Int),x89,kO (kO A (i-2) (u.toNat%100)) (i-4) (u.toNat/100%100)),?_,i-4,_,_,rfl,by omega,?_⟩
    ·refine(Rn (N:=N) (i:=i) (o:=i-2) (k:=u.toNat%100) (by omega) hiN (by rw[iA _ (by omega)];omega) (by omega) (by omega) (by omega) (by omega)).trans ?_;refine(Rn (N:=N) (i:=i) (o:=i-4) (k:=u.toNat/100%100) (by omega) hiN (by rw[iA _ (by omega)];omega) (by omega) (by omega) (by omega) (by omega)).trans ?_;rw[show((i:Nat):Int)-4=((i-4:Nat):Int) by omega,B6 (by omega)]
    ·rw[show x89.toNat=u.toNat/100/100 by omega];exact(hd.two (by omega) (by omega) rfl).two (i:=i-2) (o:=i-4) (by omega) (by omega) rfl
   ·rw[t7 (by rw[t8];omega)];exact⟨_,rfl,i,_,A,rfl,by omega,by rw[wu];exact hd⟩
  ·rintro _ ⟨i,w,A,rfl,hi,hd⟩;have hiN:=hd.1;refine sE (fun r=> ∃(i:Nat) (w:UInt32) (A:Ar UInt8 24),r= .inl ((i:Int),w,A)∧i<2∧bW N a.toNat i w.toNat A) ?_ ?_
   ·dsimp only
    by_cases h2:2≤i
    ·rw[t6 (by rw[t8];omega)];obtain⟨x75,f75,v75⟩:=nG w 100 (by decide);obtain⟨x77,f77,v77⟩:=oE w 100 (by decide);rw[f75,f77,aa,aa];rw[e100]at v75 v77;refine⟨.inl (((i-2:Nat):Int),x77,kO A (i-2) (w.toNat%100)),?_,i-2,_,_,rfl,by omega,?_⟩
     ·refine(Rn (N:=N) (i:=i) (o:=i-2) (k:=w.toNat%100) (by omega) hiN (by rw[iA _ (by omega)];omega) (by omega) (by omega) (by omega) (by omega)).trans ?_;rw[show((i:Nat):Int)-2=((i-2:Nat):Int) by omega,B6 (by omega)]
     ·rw[v77];exact hd.two (by omega) (by omega) rfl
    ·rw[t7 (by rw[t8];omega)];exact⟨_,rfl,i,_,A,rfl,by omega,hd⟩
   ·rintro _ ⟨i,w,A,rfl,hi,hd⟩;have hiN:=hd.1;dsimp only[dw]
    by_cases h1:0<i
    ·have hi1:i=1:=by omega
     subst hi1;have hw:w.toNat<10:=by simpa using hd.2.1
     rw[t6 (by rw[t8];omega),t6 (by omega),show(0:Int)=((0:Nat):Int)from rfl,E7 (by omega),aa,t6 (by omega),aa];refine⟨_,rfl,?_⟩;have hb:Kx ((CJ (((48:UInt32).toNat:Int)+(w.toNat:Int))).toNat:Int)=bb (48+w.toNat):=by
      rw[show(((48:UInt32).toNat:Int)+(w.toNat:Int))=((48+w.toNat:Nat):Int) by rw[show((48:UInt32).toNat:Int)=48 from rfl];omega,QW (by omega)];exact u8_of (by omega)
     rw[hb];exact(hd.one (by omega) rfl).end
    ·obtain rfl:i=0:=by omega
     rw[t7 (by rw[t8];omega)];exact⟨_,rfl,hd.end⟩
theorem small_val: ∀n:Fin 100,Hq (n.1:Int)=some (Dt n.1):=by decide+kernel
theorem KM(a:UInt64):Ed a=some (Dt a.toNat):=by
 have:Cz a 10=some (Dt a.toNat):=by
  by_cases h:100≤a.toNat
  ·exact AaC a h
  ·unfold Cz;rw[t6 (by decide)];dsimp only;rw[t6 (by rw[t8,show((100:UInt64).toNat:Int)=100 from rfl];omega),B6 (by omega),small_val ⟨a.toNat,by omega⟩]
   rfl
 unfold Ed JI;rw[this];rfl
end
section
def D4(sep:AP):List AP→AP
 |[]=>[]
 |[x]=>x
 |x::y::r=>x++sep++D4 sep (y::r)
theorem fH(sep:AP): ∀(l:List AP) (x:AP),l≠[]→D4 sep (l++[x])=D4 sep l++sep++x
 |[],_,h=>absurd rfl h
 |[y],x,_=>rfl
 |y::z::r,x,_=>by
  have:=fH sep (z::r) x (by simp);simp only[cd,D4]at this ⊢;rw[this];simp
def Vp(l:List AP):Nat:=(l.map jd).sum
theorem mD{l:List AP}{i:Nat}(h:i<l.length):Vp (l.take (i+1))=Vp (l.take i)+l[i].length:=by
 unfold Vp;rw[bf h,df,List.sum_append,la,List.sum_singleton]
theorem NC(sep:AP): ∀l:List AP,(D4 sep l).length=sep.length*(l.length-1)+Vp l
 |[]=>by simp[D4,Vp]
 |[x]=>by simp[D4,Vp]
 |x::y::r=>by
  have:=NC sep (y::r);simp only[D4,an,this,Vp,bh,List.sum_cons,ba,oe,Nat.mul_add,qr];omega
theorem XU(l:List AP)(i:Nat):Vp (l.take i)≤Vp l:=by
 conv=>rhs;rw[←c9 i l]
 unfold Vp;rw[df,List.sum_append];omega
theorem fL(sep:AP)(l:List AP)(i:Nat):(D4 sep (l.take i)).length≤(D4 sep l).length:=by
 rw[NC,NC];have h1:=XU l i;have h2:sep.length*((l.take i).length-1)≤sep.length*(l.length-1):=Nat.mul_le_mul_left _ (by rw[aq];omega);omega
theorem uX(g:GS AP)(sep:AP)(hl:g.l.length<1000000)(hs:sep.length<1000)(h:(D4 sep g.l).length<1000000000):Ko g sep=some (D4 sep g.l):=by
 unfold Ko;have hjl:=NC sep g.l
 by_cases h0:g.l.length=0
 ·rw[t6 (by rw[t8,h0];rfl),c0 h0];rfl
 rw[t7 (by rw[t8];omega)]
 by_cases h1:g.l.length=1
 ·rw[t6 (by rw[t8,h1];rfl)];obtain⟨x,hx⟩:=List.length_eq_one_iff.1 h1;rw[hx];rfl
 rw[t7 (by rw[t8];omega)];have hw:tx tz ((g.l.length:Int)-1)=((g.l.length-1:Nat):Int):=by
  rw[show(g.l.length:Int)-1=((g.l.length-1:Nat):Int) by omega,B6 (by omega)]
 have hprod:sep.length*(g.l.length-1)<1000000000:=by omega
 refine bind_of (fun r=>r= .inl ((sep.length*(g.l.length-1):Nat):Int)) ?_ ?_
 ·by_cases hs0:0<sep.length
  ·rw[t6 (by rw[t8];omega)];simp only[hw];rw[t7 (by omega)];have hq:tx tz (jt 9223372036854775807 ((g.l.length-1:Nat):Int))=((9223372036854775807/(g.l.length-1):Nat):Int):=by
    rw[show(9223372036854775807:Int)=((9223372036854775807:Nat):Int)from rfl,←m7,B6 (j7 (lb _ _) (by decide))]
   rw[hq,aa,t7 (by
    rw[t8,n5];have:1000000≤9223372036854775807/(g.l.length-1):=(li (by omega)).2 (by omega);omega)]
   have e1:tx tz ((sep.length:Int)*((g.l.length-1:Nat):Int))=((sep.length*(g.l.length-1):Nat):Int):=by
    rw[←Int.natCast_mul,B6 (by omega)]
   rw[e1,Int.zero_add,B6 (by omega)];exact⟨_,rfl,rfl⟩
  ·rw[t7 (by rw[t8];omega)];have:sep.length=0:=by omega
   exact⟨_,rfl,by rw[this,kc];rfl⟩
 ·rintro _ rfl;dsimp only[dw];refine CP (fun s=>g.l.length-s.2.toNat) (fun s=> ∃i:Nat,s.2=i∧i≤g.l.length∧s.1=((sep.length*(g.l.length-1)+Vp (g.l.take i):Nat):Int)) (fun r=>r= .inl ((D4 sep g.l).length:Int)) ⟨0,rfl,by omega,by simp[Vp]⟩ ?_ ?_
  ·rintro⟨n,s⟩ ⟨i,rfl,hi,rfl⟩;dsimp only;have hm:=XU g.l i
   by_cases hlt:i<g.l.length
   ·left;have hm1:=XU g.l (i+1);rw[mD hlt]at hm1;rw[t6 (by rw[t8];omega),By,ab hlt,aa];rw[t7 (by rw[t8,lV (by omega) (by omega)];omega)];refine⟨_,rfl,⟨i+1,?_,by omega,?_⟩,?_⟩
    ·dsimp only;rw[show(i:Int)+1=((i+1:Nat):Int) by omega,B6 (by omega)]
    ·dsimp only;rw[mD hlt,←Int.natCast_add,B6 (by omega),iw]
    ·dsimp only;rw[show(i:Int)+1=((i+1:Nat):Int) by omega,B6 (by omega)];omega
   ·right;rw[t7 (by rw[t8];omega)];exact⟨_,rfl,by rw[au (by omega),hjl]⟩
  ·rintro _ rfl;dsimp only[dw];have hg1:vE [] ((D4 sep g.l).length:Int)=some []:=by
    unfold vE;rw[t6 ⟨rfl,by omega,by unfold Ci;omega⟩]
   cases hgl:g with
   |nil=>rw[hgl]at h0;simp at h0
   |mk l=>
    subst hgl;simp only[C0]at*;cases l with
    |nil=>simp at h0
    |cons x r=>
     have hx:x.length≤(D4 sep (x::r)).length:=by
      have:=fL sep (x::r) 1;simpa [D4]using this
     rw[hg1,aa,show(0:Int)=((0:Nat):Int)from rfl,By];simp only[bw,aa];have hb:OP [] x=some x:=by unfold OP;rw[t6 (by simp;unfold Ci;omega)];rfl
     obtain⟨g2,hsl,hg2⟩: ∃g2:GS AP,slG (.mk (x::r)) (some 1) none=some g2∧g2.l=r:=⟨.mk r,slG_from (n:=1) (by simp),rfl⟩;subst hg2;rw[hb,aa,hsl,aa];refine CP (fun s=>g2.l.length-s.1.toNat) (fun s=> ∃i:Nat,s.1=i∧i≤g2.l.length∧s.2=D4 sep ((x::g2.l).take (i+1))) (fun b=>b= .inl (D4 sep (x::g2.l))) ⟨0,rfl,by omega,rfl⟩ ?_ ?_
     ·rintro⟨s,t⟩ ⟨i,rfl,hi,rfl⟩;dsimp only
      by_cases hlt:i<g2.l.length
      ·left;have hj2:=fL sep (x::g2.l) (i+1+1);have hsn:D4 sep ((x::g2.l).take (i+1+1))=D4 sep ((x::g2.l).take (i+1))++sep++g2.l[i]:=by
        rw[bf (show i+1<(x::g2.l).length by simpa using hlt),fH sep _ _ (by simp)]
        rfl
       have hj3:=hj2;rw[hsn,an,an]at hj3;rw[t6 (by rw[t8];omega),By,ab hlt,aa];have b1:OP (D4 sep ((x::g2.l).take (i+1))) sep=some (D4 sep ((x::g2.l).take (i+1))++sep):=by unfold OP;rw[t6 (by unfold Ci;omega)]
       have b2:OP (D4 sep ((x::g2.l).take (i+1))++sep) g2.l[i]=some (D4 sep ((x::g2.l).take (i+1))++sep++g2.l[i]):=by unfold OP;rw[t6 (by rw[an];unfold Ci;omega)]
       rw[b1,aa,b2,aa];refine⟨_,rfl,⟨i+1,?_,by omega,hsn.symm⟩,?_⟩
       ·dsimp only;rw[show(i:Int)+1=((i+1:Nat):Int) by omega,B6 (by simp at hl;omega)]
       ·dsimp only;rw[show(i:Int)+1=((i+1:Nat):Int) by omega,B6 (by simp at hl;omega)];omega
      ·right;rw[t7 (by rw[t8];omega)];exact⟨_,rfl,by rw[au (by simp;omega)]⟩
     ·rintro _ rfl;dsimp only[dw];have hT:sD (decide (0<((D4 sep (x::g2.l)).length:Int))) (D4 sep (x::g2.l))=some (D4 sep (x::g2.l)):=by
       unfold sD;refine t6 ⟨by unfold Ci;omega,fun hp h0=> ?_⟩;rw[t8,h0]at hp;simp at hp
      exact ue (fun x:Option AP=>x.bind fun y=>some y) hT
def hd(k:Nat):UInt8:=if k<10 then bb (48+k)else bb (87+k)
def hexB(b:UInt8):AP:=[hd (b.toNat/16),hd (b.toNat%16)]
def Nl(l:List UInt8):AP:=l.flatMap hexB
theorem fV(l:List UInt8):(Nl l).length=2*l.length:=by
 induction l with
 |nil=>rfl
 |cons b l ih=>simp only[Nl,d5,an,ba]at ih ⊢;rw[ih];simp[hexB];omega
theorem hexL_take{l:List UInt8}{i:Nat}(h:i<l.length):Nl (l.take (i+1))=Nl (l.take i)++[hd (l[i].toNat/16)]++[hd (l[i].toNat%16)]:=by
 rw[bf h];simp only[Nl,kl,d5,List.flatMap_nil,hexB,ei,br];rfl
def hdigs:AP:=[48,49,50,51,52,53,54,55,56,57,97,98,99,100,101,102]
theorem YB: ∀k:Fin 16,hdigs[k.1]? =some (hd k.1):=by decide+kernel
theorem hi_val: ∀b:Fin 256,(if((4:UInt64).toNat:Int)<0 then none else some (Kx (kw ((bb b.1).toNat:Int) (2^(min ((4:UInt64).toNat:Int).toNat 8)))))=some (bb (b.1/16)):=by decide+kernel
theorem lo_val: ∀b:Fin 256,Kx (FF .and .u8 ((bb b.1).toNat:Int) ((15:UInt8).toNat:Int))=bb (b.1%16):=by decide+kernel
theorem nat8{k:Nat}(h:k<256):(bb k).toNat=k:=by rw[gi];omega
theorem qS(g:GS UInt8)(h:g.l.length<1000000):Nj g=some (Nl g.l):=by
 unfold Nj;refine CP (fun s=>g.l.length-s.1.toNat) (fun s=> ∃i:Nat,s.1=i∧i≤g.l.length∧s.2=Nl (g.l.take i)) (fun b=>b= .inl (Nl g.l)) ⟨0,rfl,by omega,rfl⟩ ?_ ?_
 ·rintro⟨s,t⟩ ⟨i,rfl,hi,rfl⟩;dsimp only;have hlen:=fV (g.l.take i);rw[aq]at hlen
  by_cases hlt:i<g.l.length
  ·left;rw[t6 (by rw[t8];omega),By,ab hlt,aa];have hb:=g.l[i].toNat_lt;have e1:=hi_val ⟨g.l[i].toNat,hb⟩;have e2:=lo_val ⟨g.l[i].toNat,hb⟩;simp only[Iq]at e1 e2;rw[e1,aa];rw[e2,nat8 (by omega),nat8 (by omega),By,By];have d1:=YB ⟨g.l[i].toNat/16,by omega⟩;have d2:=YB ⟨g.l[i].toNat%16,by omega⟩;have b1:OP (Nl (g.l.take i)) [hd (g.l[i].toNat/16)]=some (Nl (g.l.take i)++[hd (g.l[i].toNat/16)]):=by unfold OP;rw[t6 (by simp;unfold Ci;omega)]
   have b2:OP (Nl (g.l.take i)++[hd (g.l[i].toNat/16)]) [hd (g.l[i].toNat%16)]=some (Nl (g.l.take i)++[hd (g.l[i].toNat/16)]++[hd (g.l[i].toNat%16)]):=by unfold OP;rw[t6 (by simp;unfold Ci;omega)]
   refine⟨(((i+1:Nat):Int),Nl (g.l.take (i+1))),?_,⟨i+1,rfl,by omega,rfl⟩,by dsimp only;omega⟩;refine(ue (fun x:Option UInt8=>x.bind _) d1).trans ?_;rw[aa,b1,aa];refine(ue (fun x:Option UInt8=>x.bind _) d2).trans ?_;rw[aa,b2,aa,hexL_take hlt,show(i:Int)+1=((i+1:Nat):Int) by omega,B6 (by omega)]
  ·right;rw[t7 (by rw[t8];omega)];exact⟨_,rfl,by rw[au (by omega)]⟩
 ·rintro _ rfl;dsimp only[dw];unfold sD;rw[t6 ⟨by rw[fV];unfold Ci;omega,fun h=>by cases h⟩]
  rfl
theorem keys_hex(K:Ar UInt8 32):WW K=some (Nl K.l):=by
 unfold WW;rw[t6 (by decide),dq,au (by rw[K.len];exact bc _),qS _ (by simp[K.len])]
 rfl
end
section
def WJ(l:List UInt8):AP:=D4 [46] (l.map fun b=>Dt b.toNat)
theorem dA{l:List AP}{n:Nat}(h: ∀x∈l,x.length≤n):Vp l≤l.length*n:=by
 induction l with
 |nil=>simp[Vp]
 |cons x l ih=>
  have h1:=h x (by simp);have h2:=ih fun y hy=>h y (by simp[hy]);simp only[Vp,bh,List.sum_cons,ba,ga,sw]at h2 ⊢;omega
theorem mO(l:List UInt8):(WJ l).length≤21*l.length:=by
 unfold WJ;rw[NC];have:=dA (l:=l.map fun b=>Dt b.toNat) (n:=20) (fun x hx=>by obtain⟨b,_,rfl⟩:=eh.1 hx;exact QG _);simp at this ⊢;omega
theorem dec8(b:UInt8):Ed (Cw (b.toNat:Int))=some (Dt b.toNat):=by
 rw[KM,LP (by have:=b.toNat_lt;omega)]
theorem bY{α:Type}{l d:List α}{x:α}{i:Nat}(h:i<l.length)(hd:l.take i=d):(l.set i x).take (i+1)=d++[x]:=by
 rw[bf (by rw[ig];exact h),List.getElem_set_self,List.take_set_of_le (bc _),hd]
theorem quad_text(B:Ar UInt8 4):Uj B=some (WJ B.l):=by
 have hB:=B.len;unfold Uj;refine CP (fun s=>4-s.1.toNat) (fun s=> ∃i:Nat,s.1=i∧i≤4∧s.2.l.take i=(B.l.take i).map fun b=>Dt b.toNat) (fun r=> ∃A:Ar AP 4,r= .inl A∧A.l=B.l.map fun b=>Dt b.toNat) ⟨0,rfl,by omega,rfl⟩ ?_ ?_
 ·rintro⟨s,A⟩ ⟨i,rfl,hi,hA⟩;dsimp only at hA ⊢
  by_cases hlt:i<4
  ·left;rw[t6 (by rw[t8];omega),By,ab (show i<B.l.length by omega),aa,dec8,aa,E7 hlt,aa,t6 hlt,aa];refine⟨_,rfl,⟨i+1,?_,by omega,?_⟩,?_⟩
   ·dsimp only;rw[show(i:Int)+1=((i+1:Nat):Int) by omega,B6 (by omega)]
   ·dsimp only;rw[bf (show i<B.l.length by omega),df];exact bY (by rw[A.len];exact hlt) hA
   ·dsimp only;rw[show(i:Int)+1=((i+1:Nat):Int) by omega,B6 (by omega)];omega
  ·right;rw[t7 (by rw[t8];omega)];refine⟨_,rfl,A,rfl,?_⟩;rw[au (by rw[A.len];omega),au (by omega)]at hA;exact hA
 ·rintro _ ⟨A,rfl,hA⟩;dsimp only[dw];have hl:=mO B.l;have hlt:(WJ B.l).length<1000000000:=by omega
  have hj:=uX (.mk A.l) [46] (by simp[A.len]) (by decide) (by show(D4 [46] A.l).length<1000000000;rw[hA];exact hlt);rw[t6 (by decide),dq,au (by rw[A.len];exact bc _),hj,C0,hA]
  rfl
def Tv:Nat→Nat→AP
 |0,_=>[]
 |k+1,n=>if n<16 then [hd n]else Tv k (n/16)++[hd (n%16)]
def SU(n:Nat):AP:=Tv 5 n
theorem nR: ∀(k n:Nat),n<16^(k+1)→Tv (k+2) n=Tv (k+1) n
 |0,n,h=>by
  have h:n<16:=by simpa using h
  simp[Tv,h]
 |k+1,n,h=>by
  by_cases hn:n<16
  ·simp[Tv,hn]
  ·have hd:n/16<16^(k+1):=by
    rw[jn (by decide),←i8];exact h
   have ih:=nR k (n/16) hd;rw[Tv,t7 hn,ih]
   conv=>rhs;rw[Tv,t7 hn]
theorem grp_eq{n:Nat}(h:n<65536):SU n=if n<16 then [hd n]else SU (n/16)++[hd (n%16)]:=by
 unfold SU;rw[nR 3 (n/16) (by omega)]
 rfl
theorem vD: ∀(k n:Nat),(Tv k n).length≤k
 |0,_=>by simp[Tv]
 |k+1,n=>by
  rw[Tv]
  split
  ·simp
  ·simp[vD k]
theorem grp_len(n:Nat):(SU n).length≤5:=vD 5 n
theorem LQ{m:Nat}(h:m<65536):(Da (m:Int)).toNat=m:=by
 show(ca ((m:Int)%65536).toNat).toNat=m;rw[show((m:Int)%65536).toNat=m by omega];simp[UInt16.toNat_ofNat,h]
theorem and15{x:Nat}(h:x<65536):FF .and .u16 (x:Int) ((15:UInt16).toNat:Int)=((x%16:Nat):Int):=by
 have h1:(cr 16 (x:Int)&&&cr 16 ((15:UInt16).toNat:Int)).toNat=x%16:=by
  rw[BitVec.toNat_and];have e1:(cr 16 (x:Int)).toNat=x:=by
   rw[jr];omega
  have e2:(cr 16 ((15:UInt16).toNat:Int)).toNat=2^4-1:=by decide
  rw[e1,e2,Nat.and_two_pow_sub_one_eq_mod]
 unfold FF;show((cr 16 (x:Int)&&&cr 16 ((15:UInt16).toNat:Int)).toNat:Int)=_;rw[h1]
theorem enc_hd: ∀k:Fin 16,encC ((hd k.1).toNat:Int)=[hd k.1]:=by decide+kernel
theorem shr16(x:UInt16): ∃y:UInt16,(if((4:UInt64).toNat:Int)<0 then none else some (Da (kw (x.toNat:Int) (2^(min ((4:UInt64).toNat:Int).toNat 16)))))=some y∧y.toNat=x.toNat/16:=by
 refine⟨_,t7 (by decide),?_⟩;rw[show((2:Int)^(min ((4:UInt64).toNat:Int).toNat 16))=((16:Nat):Int)from rfl,←qv,LQ];have:=x.toNat_lt;omega
theorem uZ(n:UInt16):OZ n=some (SU n.toNat):=by
 unfold OZ;refine CP (fun s=>s.1.toNat) (fun s=>s.2.length≤10∧s.2.length+(SU s.1.toNat).length≤5∧SU n.toNat=SU s.1.toNat++s.2) (fun r=>r= .inr (SU n.toNat)) ⟨by simp,by simpa using grp_len _,by simp⟩ ?_ ?_
 ·rintro⟨c,t⟩ ⟨h1,h2,h3⟩;have hc:=c.toNat_lt;dsimp only at h1 h2 h3 ⊢;rw[and15 (by omega),LQ (by omega),By];have d:=YB ⟨c.toNat%16,by omega⟩;obtain⟨y,f1,f2⟩:=shr16 c;have hx:((if(encC ((hd (c.toNat%16)).toNat:Int)).length+t.length≤2*Ci then some (encC ((hd (c.toNat%16)).toNat:Int)++t)else none):Option AP)=some (hd (c.toNat%16)::t):=by
   rw[enc_hd ⟨c.toNat%16,by omega⟩,t6 (by simp;unfold Ci;omega)];rfl
  have hg:=grp_eq (n:=c.toNat) (by omega)
  by_cases hy:y.toNat=0
  ·right;refine⟨.inr (SU n.toNat),?_,rfl⟩;refine(ue (fun x:Option UInt8=>x.bind _) d).trans ?_;rw[aa,hx,aa,f1,aa,t6 (by rw[t8,hy];rfl)];rw[h3,hg,t6 (by omega),j3 (show c.toNat<16 by omega)]
   rfl
  ·left;rw[t7 (by omega)]at hg;rw[hg,an,lh,←f2]at h2;refine⟨(y,hd (c.toNat%16)::t),?_,⟨by simp;omega,by simp;omega,?_⟩,by dsimp only;omega⟩
   ·refine(ue (fun x:Option UInt8=>x.bind _) d).trans ?_;rw[aa,hx,aa,f1,aa,t7 (by rw[t8];intro h;exact hy (by simpa using h))]
   ·dsimp only;rw[h3,hg,f2];simp
 ·rintro _ rfl;rfl
def G16(B:List UInt8)(i:Nat):Nat:=256*((B[2*i]?).getD 0).toNat+((B[2*i+1]?).getD 0).toNat
theorem G16_lt(B:List UInt8)(i:Nat):G16 B i<65536:=by
 have h1:=((B[2*i]?).getD 0).toNat_lt;have h2:=((B[2*i+1]?).getD 0).toNat_lt;unfold G16;omega
theorem or8{x y:Nat}(hx:x<256)(hy:y<256):FF .or .u64 ((256*x:Nat):Int) (y:Int)=((256*x+y:Nat):Int):=by
 show((cr 64 ((256*x:Nat):Int)|||cr 64 (y:Int)).toNat:Int)=_;rw[qf];have e1:(cr 64 ((256*x:Nat):Int)).toNat=256*x:=by rw[jr];omega
 have e2:(cr 64 (y:Int)).toNat=y:=by rw[jr];omega
 rw[e1,e2,show 256*x=2^8*x from rfl,←ln hy]
theorem shl8(x:UInt64)(h:x.toNat<256): ∃y:UInt64,(if((8:UInt64).toNat:Int)<0 then none else some (Cw ((x.toNat:Int)*2^(min ((8:UInt64).toNat:Int).toNat 64))))=some y∧y.toNat=256*x.toNat:=by
 refine⟨_,t7 (by decide),?_⟩;rw[show((2:Int)^(min ((8:UInt64).toNat:Int).toNat 64))=256 from rfl,show(x.toNat:Int)*256=((256*x.toNat:Nat):Int) by omega,LP (by omega)]
theorem sized2(x y:UInt8):N1 (.mk [x,y])=some true:=by
 unfold N1;rfl
end
section
theorem xL{n a b:Nat}(h:a≤b)(h':b≤n):SV n (some (a:Int)) (some (b:Int))=some (a,b):=by
 simp[SV,h,h']
theorem xK{n a:Nat}(h:a≤n):SV n (some (a:Int)) none=some (a,n):=by
 simp[SV,h]
theorem ofBig2(x y:UInt8): ∃v:UInt64,N2 (.mk [x,y])=some (v,0)∧v.toNat=256*x.toNat+y.toNat:=by
 have hx:=x.toNat_lt;have hy:=y.toNat_lt;obtain⟨z0,f0,g0⟩:=shl8 0 (by decide);have hx64:=LP (m:=x.toNat) (by omega);have hy64:=LP (m:=y.toNat) (by omega);have v1:(Cw (FF .or .u64 (z0.toNat:Int) ((Cw (x.toNat:Int)).toNat:Int))).toNat=x.toNat:=by
  rw[hx64,g0,show(0:UInt64).toNat=0 from rfl,or8 (x:=0) (by decide) (by omega),si,dc,hx64]
 obtain⟨z1,f1,g1⟩:=shl8 (Cw (FF .or .u64 (z0.toNat:Int) ((Cw (x.toNat:Int)).toNat:Int))) (by omega);rw[v1]at g1;refine⟨Cw (FF .or .u64 (z1.toNat:Int) ((Cw (y.toNat:Int)).toNat:Int)),?_,?_⟩
 ·unfold N2;rw[sized2,aa,t7 (by decide)];rw[Fd (s':=(Cw (FF .or .u64 (z0.toNat:Int) ((Cw (x.toNat:Int)).toNat:Int)),1)),Fd (s':=(Cw (FF .or .u64 (z1.toNat:Int) ((Cw (y.toNat:Int)).toNat:Int)),2)),CQ (b:= .inl (Cw (FF .or .u64 (z1.toNat:Int) ((Cw (y.toNat:Int)).toNat:Int))))]
  ·rfl
  ·rfl
  ·dsimp only;rw[t6 (by simp),show DN (GS.mk [x,y]).l 1=some y from rfl,aa,f1]
   rfl
  ·dsimp only;rw[t6 (by simp),show DN (GS.mk [x,y]).l 0=some x from rfl,aa,f0]
   rfl
 ·rw[hy64,g1,or8 (by omega) (by omega),LP (by omega)]
theorem two_of{l:List UInt8}{i:Nat}(h:2*i+1<l.length):(l.drop (2*i)).take (2*i+2-2*i)=[(l[2*i]?).getD 0,(l[2*i+1]?).getD 0]:=by
 rw[show 2*i+2-2*i=2 by omega,da (show 2*i<l.length by omega),da h,ab (show 2*i<l.length by omega),ab h]
 rfl
def vals(B:List UInt8):List Nat:=(lz 8).map (G16 B)
theorem YQ(B:Ar UInt8 16): ∃G:Ar UInt16 8,N4 B=some G∧G.l.map (·.toNat)=vals B.l:=by
 have hB:=B.len;unfold N4;refine iter_ex (fun s=>8-s.1.toNat) (fun s=> ∃i:Nat,s.1=i∧i≤8∧(s.2.l.take i).map (·.toNat)=(lz i).map (G16 B.l)) (fun r=> ∃G:Ar UInt16 8,r= .inl G∧G.l.map (·.toNat)=vals B.l) ⟨0,rfl,by omega,rfl⟩ ?_ ?_
 ·rintro⟨s,A⟩ ⟨i,rfl,hi,hA⟩;dsimp only at hA ⊢
  by_cases hlt:i<8
  ·left;have w1:tx tz (2*(i:Int))=((2*i:Nat):Int):=by rw[show 2*(i:Int)=((2*i:Nat):Int) by omega,B6 (by omega)]
   have w2:tx tz (((2*i:Nat):Int)+2)=((2*i+2:Nat):Int):=by rw[show((2*i:Nat):Int)+2=((2*i+2:Nat):Int) by omega,B6 (by omega)]
   obtain⟨v,e,hv⟩:=ofBig2 ((B.l[2*i]?).getD 0) ((B.l[2*i+1]?).getD 0);have hg:=G16_lt B.l i;have hv':v.toNat=G16 B.l i:=hv;rw[t6 (by rw[t8];omega),w1,w2,xL (by omega) (by omega),aa];dsimp only;rw[t6 (by omega),two_of (by omega),e,aa,E7 hlt,aa,t6 hlt,aa];refine⟨_,rfl,⟨i+1,?_,by omega,?_⟩,?_⟩
   ·dsimp only;rw[show(i:Int)+1=((i+1:Nat):Int) by omega,B6 (by omega)]
   ·dsimp only;have:((A.set i (Da (v.toNat:Int))).l.take (i+1))=A.l.take i++[Da (v.toNat:Int)]:=bY (by rw[A.len];exact hlt) rfl;rw[this,df,hA,List.range_succ,df,la,la,LQ (by omega),hv']
   ·dsimp only;rw[show(i:Int)+1=((i+1:Nat):Int) by omega,B6 (by omega)];omega
  ·right;rw[t7 (by rw[t8];omega)];refine⟨_,rfl,A,rfl,?_⟩;obtain rfl:i=8:=by omega
   rw[au (by rw[A.len];omega)]at hA;exact hA
 ·rintro _ ⟨G,rfl,hG⟩;exact⟨G,rfl,hG⟩
def Ni:List Bool→Nat→Nat→Nat→Nat→Nat×Nat
 |[],_,p,z,_=>(p,z)
 |b::l,i,p,z,w=>if b then(if z<w+1 then Ni l (i+1) (i+1-(w+1)) (w+1) (w+1)else Ni l (i+1) p z (w+1))else Ni l (i+1) p z 0
def runL:List Bool→Nat
 |[]=>0
 |b::l=>if b then runL l+1 else 0
def runB(l:List Bool)(i:Nat):Nat:=runL (l.drop i)
def lonB(l:List Bool):Nat→Nat→Nat→Nat→Nat×Nat
 |0,_,p,z=>(p,z)
 |k+1,i,p,z=>if z<runB l i then lonB l k (i+1) i (runB l i)else lonB l k (i+1) p z
theorem lon_same: ∀a b c d e f g h:Bool,Ni [a,b,c,d,e,f,g,h] 0 0 0 0=lonB [a,b,c,d,e,f,g,h] 8 0 0 0∧(Ni [a,b,c,d,e,f,g,h] 0 0 0 0).1+(Ni [a,b,c,d,e,f,g,h] 0 0 0 0).2≤8:=by decide+kernel
theorem lon_list{l:List Bool}(h:l.length=8):Ni l 0 0 0 0=lonB l 8 0 0 0∧(Ni l 0 0 0 0).1+(Ni l 0 0 0 0).2≤8:=by
 match l,h with
 |[a,b,c,d,e,f,g,h],_=>exact lon_same a b c d e f g h
def cQ(l:List Nat):List Bool:=l.map fun n=>decide (n=0)
theorem uQ(G:Ar UInt16 8):Md G=some (((Ni (cQ (G.l.map (·.toNat))) 0 0 0 0).1:Int),((Ni (cQ (G.l.map (·.toNat))) 0 0 0 0).2:Int)):=by
 have hG:=G.len;unfold Md;refine CP (fun s=>8-s.2.2.2.toNat) (fun s=> ∃p z w i:Nat,s=((p:Int),(z:Int),(w:Int),(i:Int))∧i≤8∧w≤i∧Ni (cQ (G.l.map (·.toNat))) 0 0 0 0=Ni ((cQ (G.l.map (·.toNat))).drop i) i p z w)
  (fun r=>r= .inl (((Ni (cQ (G.l.map (·.toNat))) 0 0 0 0).1:Int),((Ni (cQ (G.l.map (·.toNat))) 0 0 0 0).2:Int))) ⟨0,0,0,0,rfl,by omega,by omega,rfl⟩ ?_ ?_
 ·rintro _ ⟨p,z,w,i,rfl,hi,hw,he⟩;dsimp only
  by_cases hlt:i<8
  ·left;have hz:(cQ (G.l.map (·.toNat))).drop i=decide (G.l[i].toNat=0)::(cQ (G.l.map (·.toNat))).drop (i+1):=by
    rw[da (by simp[cQ];omega)];simp[cQ]
   rw[hz,Ni]at he;rw[t6 (by rw[t8];omega),By,ab (show i<G.l.length by omega),aa];have w1:tx tz ((i:Int)+1)=((i+1:Nat):Int):=by rw[show(i:Int)+1=((i+1:Nat):Int) by omega,B6 (by omega)]
   have w2:tx tz ((w:Int)+1)=((w+1:Nat):Int):=by rw[show(w:Int)+1=((w+1:Nat):Int) by omega,B6 (by omega)]
   rw[w1,w2]
   by_cases h0:G.l[i].toNat=0
   ·rw[t7 (by rw[h0];decide)];rw[t6 (by simpa using h0)]at he
    by_cases h1:z<w+1
    ·rw[t6 (by rw[t8];omega)];rw[t6 h1]at he;have w3:tx tz (((i+1:Nat):Int)-((w+1:Nat):Int))=((i+1-(w+1):Nat):Int):=by rw[show((i+1:Nat):Int)-((w+1:Nat):Int)=((i+1-(w+1):Nat):Int) by omega,B6 (by omega)]
     rw[w3];exact⟨_,rfl,⟨_,_,_,_,rfl,by omega,by omega,he⟩,by dsimp only;omega⟩
    ·rw[t7 (by rw[t8];omega)];rw[t7 h1]at he;exact⟨_,rfl,⟨_,_,_,_,rfl,by omega,by omega,he⟩,by dsimp only;omega⟩
   ·rw[t6 (by rw[show((0:UInt16).toNat:Int)=0 from rfl];simp;omega)];rw[t7 (by simpa using h0)]at he;exact⟨_,rfl,⟨p,z,0,_,rfl,by omega,by omega,he⟩,by dsimp only;omega⟩
  ·right;rw[t7 (by rw[t8];omega)];obtain rfl:i=8:=by omega
   rw[fi (by simp[cQ,hG])]at he;exact⟨_,rfl,by rw[he];rfl⟩
 ·rintro _ rfl;rfl
def P5(l:List Nat):AP:=D4 [58] (l.map SU)
theorem Qo(l:List Nat):(P5 l).length≤6*l.length:=by
 unfold P5;rw[NC];have:=dA (l:=l.map SU) (n:=5) (fun x hx=>by obtain⟨b,_,rfl⟩:=eh.1 hx;exact grp_len _);simp at this ⊢;omega
theorem PL(g:GS UInt16)(hg:g.l.length≤8):NF g=some (P5 (g.l.map (·.toNat))):=by
 unfold NF;refine CP (fun s=>g.l.length-s.1.toNat) (fun s=> ∃i:Nat,s.1=i∧i≤g.l.length∧s.2=YF ((g.l.take i).map fun x=>SU x.toNat)) (fun r=>r= .inl (YF (g.l.map fun x=>SU x.toNat))) ⟨0,rfl,by omega,rfl⟩ ?_ ?_
 ·rintro⟨s,t⟩ ⟨i,rfl,hi,rfl⟩;dsimp only
  by_cases hlt:i<g.l.length
  ·left;rw[t6 (by rw[t8];omega),By,ab hlt,aa,uZ,aa,JE (by rw[Ty,cj,aq];unfold Ci;omega),aa];refine⟨_,rfl,⟨i+1,?_,by omega,?_⟩,?_⟩
   ·dsimp only;rw[show(i:Int)+1=((i+1:Nat):Int) by omega,B6 (by omega)]
   ·dsimp only;rw[Ty,bf hlt,df,la,Tx]
   ·dsimp only;rw[show(i:Int)+1=((i+1:Nat):Int) by omega,B6 (by omega)];omega
  ·right;rw[t7 (by rw[t8];omega)];exact⟨_,rfl,by rw[au (by omega)]⟩
 ·rintro _ rfl;dsimp only[dw];have hl:=Qo (g.l.map (·.toNat));have he:(YF (g.l.map fun x=>SU x.toNat)).l=(g.l.map (·.toNat)).map SU:=by rw[Ty,j0];rfl
  rw[cj]at hl;have hj:=uX (YF (g.l.map fun x=>SU x.toNat)) [58] (by rw[he];simp;omega) (by decide) (by rw[he];exact j7 hl (by omega));rw[hj,he];rfl
def YR(B:List UInt8):AP:=
 let v:=vals B
 let q:=Ni (cQ v) 0 0 0 0
 if q.2<2 then P5 v else P5 (v.take q.1)++[58,58]++P5 (v.drop (q.1+q.2))
theorem Mf(B:List UInt8):(vals B).length=8:=by simp[vals]
theorem vals_lt(B:List UInt8): ∀n∈vals B,n<65536:=fun n hn=>by
 obtain⟨i,_,rfl⟩:=eh.1 hn;exact G16_lt B i
theorem colT_len(B:List UInt8):(YR B).length≤100:=by
 unfold YR;dsimp only
 split
 ·have:=Qo (vals B);rw[Mf]at this;omega
 ·rename_i h;have h1:=Qo ((vals B).take (Ni (cQ (vals B)) 0 0 0 0).1);have h2:=Qo ((vals B).drop ((Ni (cQ (vals B)) 0 0 0 0).1+(Ni (cQ (vals B)) 0 0 0 0).2));rw[aq,Mf]at h1;rw[bk,Mf]at h2;simp only[an,ba,bu];omega
theorem AaS(B:Ar UInt8 16):R9 B=some (YR B.l):=by
 obtain⟨G,e1,hG⟩:=YQ B;have hGl:=G.len;have e2:=uQ G;rw[hG]at e2;obtain⟨_,hq⟩:=lon_list (l:=cQ (vals B.l)) (by simp[cQ,Mf]);unfold R9 YR;rw[e1,aa,e2,aa];dsimp only;generalize Ni (cQ (vals B.l)) 0 0 0 0=q at*;obtain⟨p,z⟩:=q;dsimp only at*
 by_cases h:z<2
 ·rw[t6 (by rw[t8];omega),t6 h,t6 (by decide),dq,au (by omega),PL _ (by simp;omega),C0,hG]
  rfl
 ·have hr1:=PL (.mk (G.l.take p)) (by simp;omega);have hr2:=PL (.mk (G.l.drop (p+z))) (by simp;omega);rw[C0,ox,hG]at hr1;rw[C0,List.map_drop,hG]at hr2;have l1:=Qo ((vals B.l).take p);have l2:=Qo ((vals B.l).drop (p+z));rw[aq,Mf]at l1;rw[bk,Mf]at l2;rw[t7 (by rw[t8];omega),t7 h,AaX (by omega),aa,t6 (by omega),dq,hr1,aa,t6 (by simp;unfold Ci;omega),aa,
   show(p:Int)+(z:Int)=((p+z:Nat):Int) by omega,B6 (by omega),xK (by omega),aa]
  dsimp only;rw[t6 (by omega),au (by rw[bk];omega),hr2,aa,t6 (by simp;unfold Ci;omega)]
  rfl
end
section
abbrev zK:Ar UInt8 32:=(aw 32 bi).z
abbrev zE:AJ:=Aw.z
abbrev zP:Av:=Al.z
def Ij(a:AG):AP:=if Dm a=true then(if a.V=4 then WJ (a.B.l.take 4)else YR a.B.l)else []
theorem U0(a:AG):(Ij a).length≤100:=by
 unfold Ij
 split
 ·split
  ·have:=mO (a.B.l.take 4);rw[aq]at this;omega
  ·exact colT_len _
 ·simp
theorem eI{a:AG}(h:Dm a=true)(h4: ¬a.V=4):a.V=6:=by
 unfold Dm at h;rw[t8]at h;rcases h with h|h
 ·exact h
 ·exact absurd h.1 h4
theorem oQ(a:AG):NI a=some (Ij a):=by
 unfold NI Ij;rw[LK,aa]
 by_cases h:Dm a=true
 ·rw[h,t7 (by decide),t6 rfl]
  by_cases h4:a.V=4
  ·rw[t6 (by rw[t8];exact h4),t6 h4];exact ue (fun x:Option AP=>x.bind fun y=>some y) (quad_text _)
  ·rw[t7 (by rw[t8];exact h4),t7 h4,AaS];rfl
 ·rw[t7 h];have h':Dm a=false:=by simpa using h
  rw[h',t6 (by decide)]
def Q3(e:AJ):AP:=if HR e=true then(if e.A.V=6 then [91]++Ij e.A++[93,58]++Dt e.Port.toNat else Ij e.A++[58]++Dt e.Port.toNat)else []
theorem hostT_len(e:AJ):(Q3 e).length≤130:=by
 have h1:=U0 e.A;have h2:=QG e.Port.toNat;unfold Q3
 split
 ·split<;>simp<;>omega
 ·simp
theorem Zy{e:AJ}(h:HR e=true):Dm e.A=true∧1≤e.Port∧e.Port≤65535:=by
 unfold HR at h;simpa [af]using h
theorem uF{p:Int}(h:0≤p)(h':p<18446744073709551616):(Cw p).toNat=p.toNat:=by
 have:=LP (m:=p.toNat) (by omega)
 rwa [re h]at this
theorem host_text(e:AJ):LT e=some (Q3 e):=by
 unfold LT Q3;have hl:=U0 e.A;have hd:=QG e.Port.toNat;rw[VI,aa]
 by_cases h:HR e=true
 ·obtain⟨hA,p1,p2⟩:=Zy h;have hp:Ed (Cw e.Port)=some (Dt e.Port.toNat):=by rw[KM,uF (by omega) (by omega)]
  rw[h,t7 (by decide),t6 rfl,hp,aa,O5,aa,oQ];have hw:(32:Int)<(CI e.A:Int)↔e.A.V=6:=by
   unfold CI;rw[t6 hA]
   by_cases h4:e.A.V=4
   ·rw[t6 h4];omega
   ·rw[t7 h4];have:=eI hA h4;omega
  by_cases h6:e.A.V=6
  ·rw[t6 (by rw[t8];exact hw.2 h6),t6 h6,aa,t6 (by simp;unfold Ci;omega),aa,t6 (by simp;unfold Ci;omega),aa,t6 (by simp;unfold Ci;omega)]
   rfl
  ·rw[t7 (by rw[t8];exact fun g=>h6 (hw.1 g)),t7 h6,aa,t6 (by simp;unfold Ci;omega),aa,t6 (by simp;unfold Ci;omega)]
   rfl
 ·rw[t7 h];have h':HR e=false:=by simpa using h
  rw[h',t6 (by decide)]
def S5(p:Av):AP:=if HQ p=true then Ij p.A++[47]++Dt p.Bits.toNat else []
theorem cidrT_len(p:Av):(S5 p).length≤130:=by
 have h1:=U0 p.A;have h2:=QG p.Bits.toNat;unfold S5
 split
 ·simp;omega
 ·simp
theorem tV{p:Av}(h:HQ p=true):0≤p.Bits∧p.Bits≤128:=by
 unfold HQ at h;simp only[af,t8]at h;have:=Qc p.A;omega
theorem cidr_text(p:Av):Uw p=some (S5 p):=by
 unfold Uw S5;have hl:=U0 p.A;have hd:=QG p.Bits.toNat;rw[RA,aa]
 by_cases h:HQ p=true
 ·obtain⟨b1,b2⟩:=tV h;have hp:Ed (Cw p.Bits)=some (Dt p.Bits.toNat):=by rw[KM,uF (by omega) (by omega)]
  rw[h,t7 (by decide),t6 rfl,oQ,aa,t6 (by simp;unfold Ci;omega),aa,hp,aa,t6 (by simp;unfold Ci;omega)]
  rfl
 ·rw[t7 h];have h':HQ p=false:=by simpa using h
  rw[h',t6 (by decide)]
theorem hd_ne: ∀k:Fin 16,hd k.1≠10:=by decide+kernel
theorem hexL_ne(l:List UInt8):(10:UInt8)∉Nl l:=by
 intro h;obtain⟨b,_,hb⟩:=List.mem_flatMap.1 h;have hlt:=b.toNat_lt;simp only[hexB,bm,f8,or_false]at hb;rcases hb with hb|hb
 ·exact hd_ne ⟨b.toNat/16,by omega⟩ hb.symm
 ·exact hd_ne ⟨b.toNat%16,by omega⟩ hb.symm
theorem dig_ne{k:Nat}(h:k<10):bb (48+k)≠10:=by
 intro e;have:=ue sv e;rw[nat8 (by omega)]at this;simp at this;omega
theorem wT: ∀(k n:Nat),(10:UInt8)∉My k n
 |0,_=>by simp[My]
 |k+1,n=>by
  rw[My]
  split
  ·rename_i h;simp only[ct];exact fun e=>dig_ne h e.symm
  ·simp only[cf,ct,not_or];exact⟨wT k _,fun e=>dig_ne (td _ (by decide)) e.symm⟩
theorem Xu(n:Nat):(10:UInt8)∉Dt n:=wT 20 n
theorem fJ{sep:AP}(hs:(10:UInt8)∉sep): ∀{l:List AP},(∀x∈l,(10:UInt8)∉x)→(10:UInt8)∉D4 sep l
 |[],_=>by simp[D4]
 |[x],h=>h x (by simp)
 |x::y::r,h=>by
  simp only[D4,cf,not_or];exact⟨⟨h x (by simp),hs⟩,fJ hs fun z hz=>h z (by simp[hz])⟩
theorem grpF_ne: ∀(k n:Nat),(10:UInt8)∉Tv k n
 |0,_=>by simp[Tv]
 |k+1,n=>by
  rw[Tv]
  split
  ·rename_i h;simp only[ct];exact fun e=>hd_ne ⟨n,h⟩ e.symm
  ·simp only[cf,ct,not_or];exact⟨grpF_ne k _,fun e=>hd_ne ⟨n%16,td _ (by decide)⟩ e.symm⟩
theorem qD(l:List Nat):(10:UInt8)∉P5 l:=fJ (by decide) fun x hx=>by
 obtain⟨n,_,rfl⟩:=eh.1 hx;exact grpF_ne 5 n
theorem jC(a:AG):(10:UInt8)∉Ij a:=by
 unfold Ij
 split
 ·split
  ·exact fJ (by decide) fun x hx=>by obtain⟨n,_,rfl⟩:=eh.1 hx;exact Xu _
  ·unfold YR;dsimp only
   split
   ·exact qD _
   ·simp only[cf,not_or];exact⟨⟨qD _,by decide⟩,qD _⟩
 ·simp
theorem hostT_ne(e:AJ):(10:UInt8)∉Q3 e:=by
 unfold Q3
 split
 ·split
  ·simp only[cf,not_or];exact⟨⟨⟨by decide,jC _⟩,by decide⟩,Xu _⟩
  ·simp only[cf,not_or];exact⟨⟨jC _,by decide⟩,Xu _⟩
 ·simp
theorem cidrT_ne(p:Av):(10:UInt8)∉S5 p:=by
 unfold S5
 split
 ·simp only[cf,not_or];exact⟨⟨jC _,by decide⟩,Xu _⟩
 ·simp
end
section
def H8(w:Nat):AP:=(fZ.l[w]?).getD []
theorem CL: ∀w:Fin 17,1≤w.1→Iv (w.1:Int)=some (H8 w.1)∧H8 w.1≠[]∧61∉H8 w.1∧10∉H8 w.1∧(H8 w.1).length≤40:=by decide+kernel
def sW(f:Aq):AP:=
 if f.Word=1∨f.Word=5∨f.Word=8 then Nl f.Key.l else if f.Word=9 then Q3 f.End else if f.Word=12 then S5 f.P else Dt f.N.toNat
def Hg(f:Aq):At:=⟨H8 f.Word.toNat,sW f⟩
def Vb(w:Int):Nat:=if w=2∨w=10 then 65535 else if w=3 then 4294967295 else if w=13 then 1 else if w=16 then 20 else 18446744073709551615
def VD(w:Int):Nat:=if w=13 then 1 else 0
inductive oX:Aq→Prop where
 |key {w:Int} {K:Ar UInt8 32} (hw:w=1∨w=5∨w=8):oX ⟨w,K,0,zE,zP⟩
 |num {w:Int} {n:UInt64} (hw:w=2∨w=3∨w=10∨w=13∨w=14∨w=15∨w=16) (h1:VD w≤n.toNat) (h2:n.toNat≤Vb w):oX ⟨w,zK,n,zE,zP⟩
 |host {e:AJ} (h:HR e=true):oX ⟨9,zK,0,e,zP⟩
 |pre {p:Av} (h:HQ p=true):oX ⟨12,zK,0,zE,p⟩
theorem L3(f:Aq):Jw f=some (Nl f.Key.l,true):=by
 unfold Jw;rw[keys_hex];rfl
theorem hU(f:Aq):Jx f=some (Q3 f.End,HR f.End):=by
 unfold Jx;rw[host_text,VI];rfl
theorem XI(f:Aq):HB f=some (S5 f.P,HQ f.P):=by
 unfold HB;rw[cidr_text,RA];rfl
theorem right_key{w:Int}{K:Ar UInt8 32}(hw:w=1∨w=5∨w=8):Kd ⟨w,K,0,zE,zP⟩=some true:=by
 have hc:Iw D1 (⟨w,zK,0,zE,zP⟩:Aq) ⟨w,zK,0,zE,zP⟩=true:=Mz rfl;rcases hw with rfl|rfl|rfl
 ·have hn:=(CL ⟨1,by decide⟩ (by decide)).1;refine(ue (fun x:Option AP=>x.bind _) hn).trans ?_;refine(ue (fun x:Option (AP×Bool)=>x.bind _) (L3 ⟨1,K,0,zE,zP⟩)).trans ?_;exact ue some hc
 ·have hn:=(CL ⟨5,by decide⟩ (by decide)).1;refine(ue (fun x:Option AP=>x.bind _) hn).trans ?_;refine(ue (fun x:Option (AP×Bool)=>x.bind _) (L3 ⟨5,K,0,zE,zP⟩)).trans ?_;exact ue some hc
 ·have hn:=(CL ⟨8,by decide⟩ (by decide)).1;refine(ue (fun x:Option AP=>x.bind _) hn).trans ?_;refine(ue (fun x:Option (AP×Bool)=>x.bind _) (L3 ⟨8,K,0,zE,zP⟩)).trans ?_;exact ue some hc
theorem Ii{n lo hi:UInt64}(h1:lo.toNat≤n.toNat)(h2:n.toNat≤hi.toNat):Cr (decide ((lo.toNat:Int)≤(n.toNat:Int))) (some (decide ((n.toNat:Int)≤(hi.toNat:Int))))=some true:=by
 rw[ua (n5.2 h1),ua (n5.2 h2)];rfl
theorem right_num{w:Int}{n:UInt64}(hw:w=2∨w=3∨w=10∨w=13∨w=14∨w=15∨w=16)(h1:VD w≤n.toNat)(h2:n.toNat≤Vb w):Kd ⟨w,zK,n,zE,zP⟩=some true:=by
 have hc:Iw D1 (⟨w,zK,0,zE,zP⟩:Aq) ⟨w,zK,0,zE,zP⟩=true:=Mz rfl;have hd:=KM n;rcases hw with rfl|rfl|rfl|rfl|rfl|rfl|rfl
 ·refine(ue (fun x:Option AP=>x.bind _) (CL ⟨2,by decide⟩ (by decide)).1).trans ?_;refine(ue (fun x:Option AP=>(x.bind _).bind _) hd).trans ?_;refine(ue (fun x:Option Bool=>(x.bind fun y=>some (Dt n.toNat,y)).bind _) (Ii (n:=n) (lo:=0) (hi:=65535) h1 h2)).trans ?_;exact ue some hc
 ·refine(ue (fun x:Option AP=>x.bind _) (CL ⟨3,by decide⟩ (by decide)).1).trans ?_;refine(ue (fun x:Option AP=>(x.bind _).bind _) hd).trans ?_;refine(ue (fun x:Option Bool=>(x.bind fun y=>some (Dt n.toNat,y)).bind _) (Ii (n:=n) (lo:=0) (hi:=4294967295) h1 h2)).trans ?_;exact ue some hc
 ·refine(ue (fun x:Option AP=>x.bind _) (CL ⟨10,by decide⟩ (by decide)).1).trans ?_;refine(ue (fun x:Option AP=>(x.bind _).bind _) hd).trans ?_;refine(ue (fun x:Option Bool=>(x.bind fun y=>some (Dt n.toNat,y)).bind _) (Ii (n:=n) (lo:=0) (hi:=65535) h1 h2)).trans ?_;exact ue some hc
 ·refine(ue (fun x:Option AP=>x.bind _) (CL ⟨13,by decide⟩ (by decide)).1).trans ?_;refine(ue (fun x:Option AP=>(x.bind _).bind _) hd).trans ?_;refine(ue (fun x:Option Bool=>(x.bind fun y=>some (Dt n.toNat,y)).bind _) (Ii (n:=n) (lo:=1) (hi:=1) h1 h2)).trans ?_;exact ue some hc
 ·refine(ue (fun x:Option AP=>x.bind _) (CL ⟨14,by decide⟩ (by decide)).1).trans ?_;refine(ue (fun x:Option AP=>(x.bind _).bind _) hd).trans ?_;refine(ue (fun x:Option Bool=>(x.bind fun y=>some (Dt n.toNat,y)).bind _) (Ii (n:=n) (lo:=0) (hi:=18446744073709551615) h1 h2)).trans ?_;exact ue some hc
 ·refine(ue (fun x:Option AP=>x.bind _) (CL ⟨15,by decide⟩ (by decide)).1).trans ?_;refine(ue (fun x:Option AP=>(x.bind _).bind _) hd).trans ?_;refine(ue (fun x:Option Bool=>(x.bind fun y=>some (Dt n.toNat,y)).bind _) (Ii (n:=n) (lo:=0) (hi:=18446744073709551615) h1 h2)).trans ?_;exact ue some hc
 ·refine(ue (fun x:Option AP=>x.bind _) (CL ⟨16,by decide⟩ (by decide)).1).trans ?_;refine(ue (fun x:Option AP=>(x.bind _).bind _) hd).trans ?_;refine(ue (fun x:Option Bool=>(x.bind fun y=>some (Dt n.toNat,y)).bind _) (Ii (n:=n) (lo:=0) (hi:=20) h1 h2)).trans ?_;exact ue some hc
theorem yT{e:AJ}(h:HR e=true):Kd ⟨9,zK,0,e,zP⟩=some true:=by
 have hc:Iw D1 (⟨9,zK,0,zE,zP⟩:Aq) ⟨9,zK,0,zE,zP⟩=true:=Mz rfl;have h2:=hU ⟨9,zK,0,e,zP⟩;dsimp only at h2;rw[h]at h2;refine(ue (fun x:Option AP=>x.bind _) (CL ⟨9,by decide⟩ (by decide)).1).trans ?_;refine(ue (fun x:Option (AP×Bool)=>x.bind _) h2).trans ?_;exact ue some hc
theorem right_pre{p:Av}(h:HQ p=true):Kd ⟨12,zK,0,zE,p⟩=some true:=by
 have hc:Iw D1 (⟨12,zK,0,zE,zP⟩:Aq) ⟨12,zK,0,zE,zP⟩=true:=Mz rfl;have h2:=XI ⟨12,zK,0,zE,p⟩;dsimp only at h2;rw[h]at h2;refine(ue (fun x:Option AP=>x.bind _) (CL ⟨12,by decide⟩ (by decide)).1).trans ?_;refine(ue (fun x:Option (AP×Bool)=>x.bind _) h2).trans ?_;exact ue some hc
theorem pair_ok{f:Aq}(h:oX f):Of f=some (Hg f,0):=by
 cases h with
 | @key w K hw=>
  refine(ue (fun x:Option Bool=>x.bind _) (right_key (K:=K) hw)).trans ?_;rcases hw with rfl|rfl|rfl
  ·refine(ue (fun x:Option (AP×Bool)=>x.bind _) (L3 ⟨1,K,0,zE,zP⟩)).trans ?_;exact ue (fun x:Option AP=>x.bind fun y=>some ((⟨y,Nl K.l⟩:At),0)) (CL ⟨1,by decide⟩ (by decide)).1
  ·refine(ue (fun x:Option (AP×Bool)=>x.bind _) (L3 ⟨5,K,0,zE,zP⟩)).trans ?_;exact ue (fun x:Option AP=>x.bind fun y=>some ((⟨y,Nl K.l⟩:At),0)) (CL ⟨5,by decide⟩ (by decide)).1
  ·refine(ue (fun x:Option (AP×Bool)=>x.bind _) (L3 ⟨8,K,0,zE,zP⟩)).trans ?_;exact ue (fun x:Option AP=>x.bind fun y=>some ((⟨y,Nl K.l⟩:At),0)) (CL ⟨8,by decide⟩ (by decide)).1
 | @num w n hw h1 h2=>
  refine(ue (fun x:Option Bool=>x.bind _) (right_num hw h1 h2)).trans ?_;have hd:=KM n;rcases hw with rfl|rfl|rfl|rfl|rfl|rfl|rfl
  ·refine(ue (fun x:Option AP=>(x.bind _).bind _) hd).trans ?_;refine(ue (fun x:Option Bool=>(x.bind fun y=>some (Dt n.toNat,y)).bind _) (Ii (n:=n) (lo:=0) (hi:=65535) h1 h2)).trans ?_;exact ue (fun x:Option AP=>x.bind fun y=>some ((⟨y,Dt n.toNat⟩:At),0)) (CL ⟨2,by decide⟩ (by decide)).1
  ·refine(ue (fun x:Option AP=>(x.bind _).bind _) hd).trans ?_;refine(ue (fun x:Option Bool=>(x.bind fun y=>some (Dt n.toNat,y)).bind _) (Ii (n:=n) (lo:=0) (hi:=4294967295) h1 h2)).trans ?_;exact ue (fun x:Option AP=>x.bind fun y=>some ((⟨y,Dt n.toNat⟩:At),0)) (CL ⟨3,by decide⟩ (by decide)).1
  ·refine(ue (fun x:Option AP=>(x.bind _).bind _) hd).trans ?_;refine(ue (fun x:Option Bool=>(x.bind fun y=>some (Dt n.toNat,y)).bind _) (Ii (n:=n) (lo:=0) (hi:=65535) h1 h2)).trans ?_;exact ue (fun x:Option AP=>x.bind fun y=>some ((⟨y,Dt n.toNat⟩:At),0)) (CL ⟨10,by decide⟩ (by decide)).1
  ·refine(ue (fun x:Option AP=>(x.bind _).bind _) hd).trans ?_;refine(ue (fun x:Option Bool=>(x.bind fun y=>some (Dt n.toNat,y)).bind _) (Ii (n:=n) (lo:=1) (hi:=1) h1 h2)).trans ?_;exact ue (fun x:Option AP=>x.bind fun y=>some ((⟨y,Dt n.toNat⟩:At),0)) (CL ⟨13,by decide⟩ (by decide)).1
  ·refine(ue (fun x:Option AP=>(x.bind _).bind _) hd).trans ?_;refine(ue (fun x:Option Bool=>(x.bind fun y=>some (Dt n.toNat,y)).bind _) (Ii (n:=n) (lo:=0) (hi:=18446744073709551615) h1 h2)).trans ?_;exact ue (fun x:Option AP=>x.bind fun y=>some ((⟨y,Dt n.toNat⟩:At),0)) (CL ⟨14,by decide⟩ (by decide)).1
  ·refine(ue (fun x:Option AP=>(x.bind _).bind _) hd).trans ?_;refine(ue (fun x:Option Bool=>(x.bind fun y=>some (Dt n.toNat,y)).bind _) (Ii (n:=n) (lo:=0) (hi:=18446744073709551615) h1 h2)).trans ?_;exact ue (fun x:Option AP=>x.bind fun y=>some ((⟨y,Dt n.toNat⟩:At),0)) (CL ⟨15,by decide⟩ (by decide)).1
  ·refine(ue (fun x:Option AP=>(x.bind _).bind _) hd).trans ?_;refine(ue (fun x:Option Bool=>(x.bind fun y=>some (Dt n.toNat,y)).bind _) (Ii (n:=n) (lo:=0) (hi:=20) h1 h2)).trans ?_;exact ue (fun x:Option AP=>x.bind fun y=>some ((⟨y,Dt n.toNat⟩:At),0)) (CL ⟨16,by decide⟩ (by decide)).1
 | @host e h=>
  refine(ue (fun x:Option Bool=>x.bind _) (yT h)).trans ?_;refine(ue (fun x:Option (AP×Bool)=>x.bind _) (hU ⟨9,zK,0,e,zP⟩)).trans ?_;exact ue (fun x:Option AP=>x.bind fun y=>some ((⟨y,Q3 e⟩:At),0)) (CL ⟨9,by decide⟩ (by decide)).1
 | @pre p h=>
  refine(ue (fun x:Option Bool=>x.bind _) (right_pre h)).trans ?_;refine(ue (fun x:Option (AP×Bool)=>x.bind _) (XI ⟨12,zK,0,zE,p⟩)).trans ?_;exact ue (fun x:Option AP=>x.bind fun y=>some ((⟨y,S5 p⟩:At),0)) (CL ⟨12,by decide⟩ (by decide)).1
theorem sV(f:Aq):(sW f).length≤130:=by
 unfold sW
 split
 ·rw[fV,f.Key.len];omega
 ·split
  ·exact hostT_len _
  ·split
   ·exact cidrT_len _
   ·have:=QG f.N.toNat;omega
theorem valF_ne(f:Aq):(10:UInt8)∉sW f:=by
 unfold sW
 split
 ·exact hexL_ne _
 ·split
  ·exact hostT_ne _
  ·split
   ·exact cidrT_ne _
   ·exact Xu _
theorem oX.word{f:Aq}(h:oX f): ∃w:Fin 17,1≤w.1∧f.Word=(w.1:Int):=by
 cases h with
 |key hw=>exact hw.elim (fun e=>⟨1,by decide,e⟩) (fun h=>h.elim (fun e=>⟨5,by decide,e⟩) (fun e=>⟨8,by decide,e⟩))
 |num hw _ _=>exact hw.elim (fun e=>⟨2,by decide,e⟩) (fun h=>h.elim (fun e=>⟨3,by decide,e⟩) (fun h=>h.elim (fun e=>⟨10,by decide,e⟩) (fun h=>h.elim (fun e=>⟨13,by decide,e⟩) (fun h=>h.elim (fun e=>⟨14,by decide,e⟩) (fun h=>h.elim (fun e=>⟨15,by decide,e⟩) (fun e=>⟨16,by decide,e⟩))))))
 |host _=>exact⟨9,by decide,rfl⟩
 |pre _=>exact⟨12,by decide,rfl⟩
theorem pZ{f:Aq}(h:oX f):Sb (Ds (Hg f)) (Hg f).Key (Hg f).Value:=by
 obtain⟨w,h1,h2⟩:=h.word;obtain⟨_,n1,n2,n3,n4⟩:=CL w h1;have hk:(Hg f).Key=H8 w.1:=by show H8 f.Word.toNat=_;rw[h2];rfl
 have hv:=sV f;have hn:=valF_ne f;have hval:(Hg f).Value=sW f:=rfl;refine⟨rfl,by rw[hk];exact n2,by rw[hk];exact n1,?_,?_⟩
 ·unfold Ds;rw[hk,hval];simp only[cf,bm,not_or];exact⟨n3,by decide,hn⟩
 ·unfold Ds;rw[hk,hval];simp only[an,ba];omega
end
section
open Classical
theorem cmpK(x y:Ar UInt8 32):Iw (l8 32 nr) x y=decide (x=y):=
 if h:x=y then(Mz (t:=aw 32 bi) h).trans (ua h).symm else(cI (t:=aw 32 bi) h).trans (ub h).symm
theorem eqK'(x y:Ar UInt8 32):QF x y=true↔x=y:=by
 unfold QF;rw[cmpK,decide_eq_true_iff]
theorem eqP'(x y:Av):HN x y=true↔x=y:=by
 unfold HN;simp only[xC,decide_eq_true_iff]
def tm{κ:Type}(l:List κ):List (κ×Bool):=l.map fun k=>(k,true)
theorem qP{κ:Type}{e:κ→κ→Bool}(he: ∀x y,e x y=true↔x=y){k:κ}: ∀{l:List κ},k∈l→(WS e (tm l) k).getD false=true
 |x::l,hm=>by
  simp only[tm,bh,WS]
  by_cases h:k=x
  ·rw[(he k x).2 h];rfl
  ·have:e k x=false:=by simpa using fun g=>h ((he k x).1 g)
   rw[this,cond_false];exact qP he ((bm.1 hm).resolve_left h)
theorem fA{κ:Type}{e:κ→κ→Bool}(he: ∀x y,e x y=true↔x=y){k:κ}: ∀{l:List κ},k∉l→(WS e (tm l) k).getD false=false
 |[],_=>rfl
 |x::l,hm=>by
  simp only[tm,bh,WS];have h: ¬k=x:=fun e=>hm (by simp[e]);have:e k x=false:=by simpa using fun g=>h ((he k x).1 g)
  rw[this,cond_false];exact fA he fun g=>hm (by simp[g])
theorem qO{κ:Type}{e:κ→κ→Bool}(he: ∀x y,e x y=true↔x=y){k:κ}: ∀{l:List κ},k∉l→WR e (tm l) k true=tm (l++[k])
 |[],_=>rfl
 |x::l,hm=>by
  simp only[tm,bh,cd,WR];have h: ¬k=x:=fun e=>hm (by simp[e]);have:e k x=false:=by simpa using fun g=>h ((he k x).1 g)
  rw[this,cond_false];exact ue (fun r=>(x,true)::r) (qO he fun g=>hm (by simp[g]))
theorem tm_len{κ:Type}(l:List κ):(tm l).length=l.length:=by simp[tm]
def UE(l:List Av)(i:Nat):Prop:= ∃p,l[i]? =some p∧HQ p=true∧(0<i→ ∃q,l[i-1]? =some q∧Z8 q p=true)
def V5(l:List Av):Prop:= ∀i,i<l.length→UE l i
theorem Y1{l:List Av}{i:Nat}(hi:i<l.length)(hl:l.length<4611686018427387904){f:Av→Option Bool}{g:Av→Av→Option Bool}(hf: ∀p,f p=some (HQ p))(hg: ∀p q,g p q=some (Z8 p q)):
  ((f l[i]).bind fun x10=>(FL (!x10) ((Cr (decide (0<(i:Int))) ((DN l (tx tz ((i:Int)-1))).bind fun x14=>(g x14 l[i]).bind fun x17=>some (!x17))).bind fun x19=>some x19)))=some (!decide (UE l i)):=by
 rw[hf];simp only[aa];cases hr:HQ l[i]with
 |false=>
  have: ¬UE l i:=by
   rintro⟨p,hp,h,_⟩;rw[ab hi]at hp;cases hp;rw[hr]at h;cases h
  simp[FL,this]
 |true=>
  simp only[cq,FL,ah,ud]
  by_cases h0:0<i
  ·have hw:tx tz ((i:Int)-1)=((i-1:Nat):Int):=by rw[UR (by omega) (by omega)];omega
   rw[ua (show(0:Int)<(i:Int) by omega),hw,By,ab (show i-1<l.length by omega)];simp only[Cr,uc,aa,hg];congr 1;have:UE l i↔Z8 l[i-1] l[i]=true:=by
    constructor
    ·rintro⟨p,hp,_,h⟩;rw[ab hi]at hp;cases hp;obtain⟨q,hq,h⟩:=h h0;rw[ab (show i-1<l.length by omega)]at hq;cases hq;exact h
    ·intro h;exact⟨_,ab hi,hr,fun _=>⟨_,ab (show i-1<l.length by omega),h⟩⟩
   by_cases h:UE l i
   ·rw[this.1 h];simp[h]
   ·have h':Z8 l[i-1] l[i]=false:=by simpa using fun g=>h (this.2 g)
    rw[h'];simp[h]
  ·have:UE l i:=⟨_,ab hi,hr,fun g=>absurd g h0⟩;rw[ub (show¬(0:Int)<(i:Int) by omega)];simp[Cr,this]
theorem yS(g:GS Av)(hl:g.l.length<4611686018427387904):OR g=some (decide (V5 g.l)):=by
 unfold OR;refine(tM (k:=0) (n:=g.l.length) (fun i=>if UE g.l i then none else some false) (by omega) hl ?_ ?_).trans ?_
 rotate_left 2
 ·cases e:(dp 0 (g.l.length-0)).findSome? (fun i=>if UE g.l i then none else some false)with
  |none=>
   simp only[dw];have:V5 g.l:=fun i hi=>by
    have:=gn.1 e i (by rw[dx];omega)
    by_cases h:UE g.l i
    ·exact h
    ·simp[h]at this
   rw[ua this]
  |some b=>
   obtain⟨i,hi,h'⟩:=gf e;rw[dx]at hi
   by_cases h:UE g.l i
   ·simp[h]at h'
   ·simp only[h,ud,ae]at h';subst h';have: ¬V5 g.l:=fun r=>h (r i (by omega));rw[ub this];rfl
 ·intro i _ hi;rw[t6 (by simpa using hi),By,ab hi];have ht:=Y1 hi hl (f:=JT) (g:=QK) RA cidr_less;simp only[aa];rw[RA]at ht ⊢;simp only[aa]at ht ⊢;rw[ht]
  by_cases h:UE g.l i<;>simp[h]
 ·rw[t7 (by simp)]
def cP:Ar UInt8 32:=⟨[0,0,0,0,0,0,0,0,0,0,0,0,0,0,0,0,0,0,0,0,0,0,0,0,0,0,0,0,0,0,0,0],rfl⟩
def noE:AJ:=⟨Ao.z,0⟩
def NV(n:Int):Prop:=0≤n∧n≤65535
theorem short_val(n:Int):NK n=some (decide (NV n)):=by
 unfold NK NV
 by_cases h:0≤n<;>simp[Cr,h]
theorem from_val(n:Int):Th n=some (decide (NV n)):=by
 unfold Th NV
 by_cases h:0≤n<;>simp[Cr,h]
def Va(e:AJ):Prop:=e=noE∨HR e=true
def M6(p:AE):Prop:=NV p.Keep∧Va p.End∧V5 p.Allowed.l
def Hp(l:List AE):List (Ar UInt8 32):=cP::l.map (·.Key)
def Fz(l:List AE):List Av:=l.flatMap (·.Allowed.l)
def Good(l:List AE):Prop:=(∀p∈l,M6 p)∧(Hp l).Nodup∧(Fz l).Nodup
def FU(c:AW):Prop:=NV c.Port∧c.Peers.l.length≤16∧Good c.Peers.l∧(Fz c.Peers.l).length≤64
def Rf(c:AW):Prop:=c.Peers.l.length≤400∧ ∀p∈c.Peers.l,p.Allowed.l.length≤400
theorem ZB(l:List AE)(p:AE):Hp (l++[p])=Hp l++[p.Key]:=by simp[Hp]
theorem V7(l:List AE)(p:AE):Fz (l++[p])=Fz l++p.Allowed.l:=by simp[Fz]
theorem NY{α:Type}{l:List α}{x:α}:(l++[x]).Nodup↔l.Nodup∧x∉l:=by
 rw[ke];constructor
 ·rintro⟨h1,_,h3⟩;exact⟨h1,fun h=>h3 x h x (by simp) rfl⟩
 ·rintro⟨h1,h2⟩;refine⟨h1,by simp,fun a ha b hb e=> ?_⟩;simp only[ct]at hb;subst hb;subst e;exact h2 ha
theorem oZ(l:List AE)(p:AE):Good (l++[p])↔Good l∧M6 p∧p.Key∉Hp l∧(Fz l++p.Allowed.l).Nodup:=by
 unfold Good;rw[ZB,V7,NY];constructor
 ·rintro⟨h1,⟨h2,h3⟩,h4⟩;exact⟨⟨fun q hq=>h1 q (by simp[hq]),h2,(ke.1 h4).1⟩,h1 p (by simp),h3,h4⟩
 ·rintro⟨⟨h1,h2,_⟩,h3,h4,h5⟩;refine⟨fun q hq=> ?_,⟨h2,h4⟩,h5⟩;rcases cf.1 hq with hq|hq
  ·exact h1 q hq
  ·rw[ct.1 hq];exact h3
theorem Good.take{l:List AE}(h:Good l)(n:Nat):Good (l.take n):=by
 have e:l=l.take n++l.drop n:=(c9 n l).symm;unfold Good at h ⊢;refine⟨fun p hp=>h.1 p (co hp),?_,?_⟩
 ·have:=h.2.1;rw[e]at this;simp only[Hp,df,List.nodup_cons,cf,not_or,ke]at this ⊢;exact⟨this.1.1,this.2.1⟩
 ·have:=h.2.2;rw[e]at this;simp only[Fz,kl]at this;exact(ke.1 this).1
theorem uB{ρ:Type}{F:Int×List (Av×Bool)→Option ((Int×List (Av×Bool))⊕(List (Av×Bool)⊕ρ))}(l:List Av)(bad:ρ)
  (hF: ∀(k:Nat) (m:List (Av×Bool)) (h:k<l.length),F ((k:Int),m)=if(WS HN m l[k]).getD false=true then some (.inr (.inr bad))else some (.inl (((k+1:Nat):Int),WR HN m l[k] true)))
  (hE: ∀m,F ((l.length:Int),m)=some (.inr (.inl m))) (o:List Av) (ho:o.Nodup):iter F (0,tm o)=some (if(o++l).Nodup then .inl (tm (o++l))else .inr bad):=by
 refine fM (fun s:Int×List (Av×Bool)=>l.length-s.1.toNat) (fun s:Int×List (Av×Bool)=> ∃k:Nat,s.1=(k:Int)∧k≤l.length∧s.2=tm (o++l.take k)∧(o++l.take k).Nodup) ?_ ⟨0,rfl,by omega,by simp,by simpa using ho⟩;rintro⟨s,m⟩ ⟨k,rfl,h1,h2,h3⟩;dsimp only at h2 ⊢;subst h2
 by_cases hk:k<l.length
 ·rw[hF k _ hk];have ht:l.take (k+1)=l.take k++[l[k]]:=bf hk
  by_cases hm:l[k]∈o++l.take k
  ·right;rw[t6 (qP eqP' hm),t7];intro hn;have e:o++l=(o++l.take k++[l[k]])++l.drop (k+1):=by
    rw[br o,←ht,br,c9]
   rw[e]at hn;exact(NY.1 (ke.1 hn).1).2 hm
  ·left;rw[t7 (by rw[fA eqP' hm];simp),qO eqP' hm];refine⟨_,rfl,⟨k+1,rfl,by omega,?_,?_⟩,by dsimp only;omega⟩
   ·rw[ht,br]
   ·rw[ht,←br,NY];exact⟨h3,hm⟩
 ·obtain rfl:k=l.length:=by omega
  right;rw[hE];rw[f9]at h3 ⊢;rw[t6 h3]
theorem yH(c:AW)(hs:Rf c):QU c=some (decide (FU c)):=by
 have hlen:=hs.1;unfold QU;simp only[short_val,aa]
 by_cases hp:NV c.Port
 rotate_left
 ·have: ¬FU c:=fun h=>hp h.1;simp[FL,hp,this]
 by_cases h16:16<c.Peers.l.length
 ·have: ¬FU c:=fun h=>by have:=h.2.1;omega
  have hd:decide (16<(c.Peers.l.length:Int))=true:=ua (by omega);simp[FL,hp,this,hd]
 have hd:decide (16<(c.Peers.l.length:Int))=false:=ub (by omega);have h0:WR QF ([]:List ((Ar UInt8 32)×Bool)) (⟨[0,0,0,0,0,0,0,0,0,0,0,0,0,0,0,0,0,0,0,0,0,0,0,0,0,0,0,0,0,0,0,0],rfl⟩:(Ar UInt8 32)) true=tm (Hp []):=rfl;simp only[FL,hp,hd,decide_true,cq,ah,ud,aa,h0];refine CP (fun s=>c.Peers.l.length-s.1.toNat) (fun s=> ∃n:Nat,s.1=(n:Int)∧n≤c.Peers.l.length∧s.2.1=tm (Hp (c.Peers.l.take n))∧s.2.2=tm (Fz (c.Peers.l.take n))∧Good (c.Peers.l.take n))
  (fun r=>(r= .inl (tm (Fz c.Peers.l))∧Good c.Peers.l)∨(r= .inr false∧ ¬Good c.Peers.l)) ⟨0,rfl,by omega,rfl,rfl,by simp[Good,Hp,Fz]⟩ ?_ ?_
 ·rintro⟨s,km,om⟩ ⟨n,rfl,h1,h2,h3,h4⟩;dsimp only at h2 h3 ⊢;subst h2 h3
  by_cases hn:n<c.Peers.l.length
  ·have hall:=hs.2 _ (eu hn);have ht:c.Peers.l.take (n+1)=c.Peers.l.take n++[c.Peers.l[n]]:=bf hn;have hg:=oZ (c.Peers.l.take n) c.Peers.l[n];rw[←ht]at hg;have bad: ¬(M6 c.Peers.l[n]∧c.Peers.l[n].Key∉Hp (c.Peers.l.take n)∧(Fz (c.Peers.l.take n)++c.Peers.l[n].Allowed.l).Nodup)→ ¬Good c.Peers.l:=fun hb hG=>hb (hg.1 (hG.take (n+1))).2;rw[t6 (by simpa using hn),By,ab hn];simp only[aa]
   by_cases hk:c.Peers.l[n].Key∈Hp (c.Peers.l.take n)
   ·right;refine⟨.inr false,?_, .inr ⟨rfl,bad fun h=>h.2.1 hk⟩⟩;rw[qP eqK' hk]
    rfl
   rw[fA eqK' hk]
   by_cases hkeep:NV c.Peers.l[n].Keep
   rotate_left
   ·right;refine⟨.inr false,?_, .inr ⟨rfl,bad fun h=>hkeep h.1.1⟩⟩;rw[ub hkeep]
    rfl
   rw[ua hkeep];simp only[cq,ah,ud,aa];rw[yS _ (by omega)]
   by_cases hris:V5 c.Peers.l[n].Allowed.l
   rotate_left
   ·right;refine⟨.inr false,?_, .inr ⟨rfl,bad fun h=>hris h.1.2.2⟩⟩;rw[ub hris]
    rfl
   rw[ua hris];have hend:((G5 c.Peers.l[n].End).bind fun x30=>(Cr (!x30) ((ER c.Peers.l[n].End).bind fun x33=>some (!x33))))=some (!decide (Va c.Peers.l[n].End)):=by
    rw[nN,VI];simp only[aa]
    by_cases e:c.Peers.l[n].End=⟨Ao.z,0⟩
    ·have:Va c.Peers.l[n].End:= .inl e;simp[Cr,e,this];exact .inl rfl
    ·have:Va c.Peers.l[n].End↔HR c.Peers.l[n].End=true:=⟨fun h=>h.resolve_left e, .inr⟩;cases hr:HR c.Peers.l[n].End with
     |true=>simp[Cr,e,this,hr]
     |false=>simp[Cr,e,this,hr]
   have hend': ∀{γ:Type} (K:Bool→Option γ),((G5 c.Peers.l[n].End).bind fun x30=>(Cr (!x30) ((ER c.Peers.l[n].End).bind fun x33=>some (!x33))).bind K)=K (!decide (Va c.Peers.l[n].End)):=fun K=>by
    have:=ue (fun x=>x.bind K) hend;simpa only[Option.bind_assoc,aa]using this
   simp only[cq,ah,ud,aa];rw[hend']
   by_cases hE:Va c.Peers.l[n].End
   rotate_left
   ·right;refine⟨.inr false,?_, .inr ⟨rfl,bad fun h=>hE h.1.2.1⟩⟩;rw[ub hE]
    rfl
   rw[ua hE];simp only[cq,ah,ud];have hw1:tx tz ((n:Int)+1)=((n+1:Nat):Int):=by rw[show(n:Int)+1=((n+1:Nat):Int) by omega,B6 (by omega)]
   by_cases hN:(Fz (c.Peers.l.take n)++c.Peers.l[n].Allowed.l).Nodup
   ·left;refine⟨(((n+1:Nat):Int),tm (Hp (c.Peers.l.take (n+1))),tm (Fz (c.Peers.l.take (n+1)))),?_,⟨n+1,rfl,by omega,rfl,rfl,hg.2 ⟨h4,⟨hkeep,hE,hris⟩,hk,hN⟩⟩,by dsimp only;omega⟩;refine(ue (fun x=>qy x _) (uB c.Peers.l[n].Allowed.l (.inr (.inr false)) ?_ ?_ (Fz (c.Peers.l.take n)) h4.2.2)).trans ?_
    ·intro k m h;dsimp only;rw[t6 (by simpa using h),By,ab h,show(k:Int)+1=((k+1:Nat):Int) by omega,B6 (by omega)]
     rfl
    ·intro m;dsimp only;rw[t7 (by simp)]
    ·rw[t6 hN,hw1,qO eqK' hk,ht,ZB,V7]
     rfl
   ·right;refine⟨.inr false,?_, .inr ⟨rfl,bad fun h=>hN h.2.2⟩⟩;refine(ue (fun x=>qy x _) (uB c.Peers.l[n].Allowed.l (.inr (.inr false)) ?_ ?_ (Fz (c.Peers.l.take n)) h4.2.2)).trans ?_
    ·intro k m h;dsimp only;rw[t6 (by simpa using h),By,ab h,show(k:Int)+1=((k+1:Nat):Int) by omega,B6 (by omega)]
     rfl
    ·intro m;dsimp only;rw[t7 (by simp)]
    ·rw[t7 hN]
     rfl
  ·obtain rfl:n=c.Peers.l.length:=by omega
   right;rw[t7 (by simp)];rw[f9]at h4 ⊢;exact⟨_,rfl, .inl ⟨rfl,h4⟩⟩
 ·rintro _ (⟨rfl,hG⟩|⟨rfl,hG⟩)
  ·simp only[dw,tm_len];congr 1;rw[decide_eq_decide];constructor
   ·intro h;exact⟨hp,by omega,hG,by omega⟩
   ·intro h;have:=h.2.2.2;omega
  ·have: ¬FU c:=fun h=>hG h.2.2.1;simp[this]
theorem WB{α β ρ:Type}{l:List α}{x:α}{F:Int→Option (Int⊕(Unit⊕β))}{K:Unit⊕β→Option ρ}{b:β}(n:Nat)(hn:n≤l.length)(hl:l.length<4611686018427387904)
  (h1: ∀i (h:i<n),(l[i]'(by omega)=x→F (i:Int)=some (.inr (.inr b)))∧(l[i]'(by omega)≠x→F (i:Int)=some (.inl (tx tz ((i:Int)+1))))) (h2:F (n:Int)=some (.inr (.inl ()))):
  (x∈l.take n→(iter F 0).bind K=K (.inr b))∧(x∉l.take n→(iter F 0).bind K=K (.inl ())):=by
 have key:=tM (F:=F) (K:=K) (k:=0) (n:=n) (fun i=>if l[i]? =some x then some b else none) (by omega) (by omega) (fun i _ hi=>by
  have hil:i<l.length:=by omega
  by_cases e:l[i]=x
  ·rw[(h1 i hi).1 e];simp[ab hil,e]
  ·rw[(h1 i hi).2 e];simp[ab hil,e]) h2
 have key':(iter F 0).bind K=_:=key;rw[key'];constructor
 ·intro hx;cases e:(dp 0 (n-0)).findSome? (fun i=>if l[i]? =some x then some b else none)with
  |none=>
   obtain⟨i,hi,hg⟩:=rd hx;rw[aq]at hi;have:=gn.1 e i (by rw[dx];omega);rw[kd]at hg;rw[ab (show i<l.length by omega),hg]at this;simp at this
  |some c=>
   obtain⟨i,hi,h'⟩:=gf e
   split at h'
   ·cases h';rfl
   ·cases h'
 ·intro hx;cases e:(dp 0 (n-0)).findSome? (fun i=>if l[i]? =some x then some b else none)with
  |none=>rfl
  |some c=>
   obtain⟨i,hi,h'⟩:=gf e;rw[dx]at hi
   split at h'
   ·rename_i hg;obtain⟨hlt,hg⟩:=cg.1 hg;exact absurd (List.mem_take_iff_getElem.2 ⟨i,by omega,hg⟩) hx
   ·cases h'
theorem WC{α β ρ:Type}{l:List α}{x:α}{F:Int→Option (Int⊕(Unit⊕β))}{K:Unit⊕β→Option ρ}{b:β}(hl:l.length<4611686018427387904)
  (h1: ∀i (h:i<l.length),(l[i]=x→F (i:Int)=some (.inr (.inr b)))∧(l[i]≠x→F (i:Int)=some (.inl (tx tz ((i:Int)+1))))) (h2:F (l.length:Int)=some (.inr (.inl ()))):
  (x∈l→(iter F 0).bind K=K (.inr b))∧(x∉l→(iter F 0).bind K=K (.inl ())):=by
 have:=WB (l:=l) (x:=x) (K:=K) l.length (bc _) hl h1 h2
 rwa [f9]at this
theorem mY{ρ:Type}{F:Int×GS Av→Option ((Int×GS Av)⊕(GS Av⊕ρ))}(l:List Av)(bad:ρ)
  (hF: ∀(k:Nat) (m:List Av) (h:k<l.length),m.length≤6800→F ((k:Int),YF m)=some (if UE l k∧l[k]∉m then .inl (((k+1:Nat):Int),YF (m++[l[k]]))else .inr (.inr bad)))
  (hE: ∀m,F ((l.length:Int),m)=some (.inr (.inl m))) (o:List Av) (ho:o.Nodup) (hb:o.length+l.length≤6800):iter F (0,YF o)=some (if V5 l∧(o++l).Nodup then .inl (YF (o++l))else .inr bad):=by
 refine fM (fun s=>l.length-s.1.toNat) (fun s=> ∃k:Nat,s.1=(k:Int)∧k≤l.length∧s.2=YF (o++l.take k)∧(o++l.take k).Nodup∧ ∀i,i<k→UE l i) ?_ ⟨0,rfl,by omega,by simp,by simpa using ho,fun i hi=>by omega⟩;rintro⟨s,m⟩ ⟨k,rfl,h1,h2,h3,h5⟩;dsimp only at h2 ⊢;subst h2
 by_cases hk:k<l.length
 ·rw[hF k _ hk (by rw[an,aq];omega)];have ht:l.take (k+1)=l.take k++[l[k]]:=bf hk
  by_cases hm:UE l k∧l[k]∉o++l.take k
  ·left;rw[t6 hm];refine⟨_,rfl,⟨k+1,rfl,by omega,?_,?_,?_⟩,by dsimp only;omega⟩
   ·rw[ht,br]
   ·rw[ht,←br,NY];exact⟨h3,hm.2⟩
   ·intro i hi;rcases ef i k with h|h
    ·exact h5 i h
    ·obtain rfl:i=k:=by omega
     exact hm.1
  ·right;rw[t7 hm,t7];rintro⟨hr,hn⟩;refine hm ⟨hr k hk,fun hin=> ?_⟩;have e:o++l=(o++l.take k++[l[k]])++l.drop (k+1):=by
    rw[br o,←ht,br,c9]
   rw[e]at hn;exact(NY.1 (ke.1 hn).1).2 hin
 ·obtain rfl:k=l.length:=by omega
  right;rw[hE];rw[f9]at h3 ⊢;rw[t6 ⟨fun i hi=>h5 i hi,h3⟩]
theorem preOf_len{l:List AE}{n:Nat}(h: ∀p∈l,p.Allowed.l.length≤n):(Fz l).length≤l.length*n:=by
 induction l with
 |nil=>simp[Fz]
 |cons p l ih=>
  have h1:=h p (by simp);have h2:=ih fun q hq=>h q (by simp[hq]);simp only[Fz,d5,an,ba,ga,sw]at h2 ⊢;omega
theorem r34_right(c:AW)(hs:Rf c):Qq c=some (decide (FU c)):=by
 have hlen:=hs.1;unfold Qq;simp only[from_val,aa]
 by_cases hp:NV c.Port
 rotate_left
 ·have: ¬FU c:=fun h=>hp h.1;simp[FL,hp,this]
 by_cases h16:16<c.Peers.l.length
 ·have: ¬FU c:=fun h=>by have:=h.2.1;omega
  have hd:decide (16<(c.Peers.l.length:Int))=true:=ua (by omega);simp[FL,hp,this,hd]
 have hd:decide (16<(c.Peers.l.length:Int))=false:=ub (by omega);simp only[FL,hp,hd,decide_true,cq,ah,ud,aa];refine CP (fun s=>c.Peers.l.length-s.1.toNat) (fun s=> ∃n:Nat,s.1=(n:Int)∧n≤c.Peers.l.length∧s.2=YF (Fz (c.Peers.l.take n))∧Good (c.Peers.l.take n))
  (fun r=>(r= .inl (YF (Fz c.Peers.l))∧Good c.Peers.l)∨(r= .inr false∧ ¬Good c.Peers.l)) ⟨0,rfl,by omega,rfl,by simp[Good,Hp,Fz]⟩ ?_ ?_
 ·rintro⟨s,om⟩ ⟨n,rfl,h1,h3,h4⟩;dsimp only at h3 ⊢;subst h3
  by_cases hn:n<c.Peers.l.length
  ·have hall:=hs.2 _ (eu hn);have ht:c.Peers.l.take (n+1)=c.Peers.l.take n++[c.Peers.l[n]]:=bf hn;have hg:=oZ (c.Peers.l.take n) c.Peers.l[n];rw[←ht]at hg;have bad: ¬(M6 c.Peers.l[n]∧c.Peers.l[n].Key∉Hp (c.Peers.l.take n)∧(Fz (c.Peers.l.take n)++c.Peers.l[n].Allowed.l).Nodup)→ ¬Good c.Peers.l:=fun hb hG=>hb (hg.1 (hG.take (n+1))).2;have hkz:c.Peers.l[n].Key∈Hp (c.Peers.l.take n)↔c.Peers.l[n].Key=cP∨c.Peers.l[n].Key∈(c.Peers.l.take n).map (·.Key):=by simp[Hp]
   have hpl:(Fz (c.Peers.l.take n)).length≤6400:=by
    have:=preOf_len (l:=c.Peers.l.take n) (n:=400) fun p hp=>hs.2 p (co hp);rw[aq]at this;have h2:min n c.Peers.l.length*400≤16*400:=cn _ (by omega);omega
   have hw1:tx tz ((n:Int)+1)=((n+1:Nat):Int):=by rw[show(n:Int)+1=((n+1:Nat):Int) by omega,B6 (by omega)]
   rw[t6 (by simpa using hn),By,ab hn];simp only[aa,cmpK];have hz:(⟨[0,0,0,0,0,0,0,0,0,0,0,0,0,0,0,0,0,0,0,0,0,0,0,0,0,0,0,0,0,0,0,0],rfl⟩:(Ar UInt8 32))=cP:=rfl;rw[hz]
   by_cases hk0:c.Peers.l[n].Key=cP
   ·right;refine⟨.inr false,?_, .inr ⟨rfl,bad fun h=>h.2.1 (hkz.2 (.inl hk0))⟩⟩;rw[ua hk0]
    rfl
   rw[ub hk0]
   by_cases hkeep:NV c.Peers.l[n].Keep
   rotate_left
   ·right;refine⟨.inr false,?_, .inr ⟨rfl,bad fun h=>hkeep h.1.1⟩⟩;rw[ub hkeep]
    rfl
   rw[ua hkeep];have hend: ∀{γ:Type} (K:Bool→Option γ),((Cr (!(Iw Em c.Peers.l[n].End (⟨Ao.z,0⟩:AJ))) ((Qr c.Peers.l[n].End).bind fun x29=>some (!x29))).bind K)=K (!decide (Va c.Peers.l[n].End)):=fun K=>by
    simp only[cmpE,r12_right,aa]
    by_cases e:c.Peers.l[n].End=⟨Ao.z,0⟩
    ·have:Va c.Peers.l[n].End:= .inl e;rw[ua e,ua this];rfl
    ·have:Va c.Peers.l[n].End↔HR c.Peers.l[n].End=true:=⟨fun h=>h.resolve_left e, .inr⟩;rw[ub e];cases hr:HR c.Peers.l[n].End with
     |true=>rw[ua (this.2 hr)];rfl
     |false=>rw[ub (fun h=>by rw[this.1 h]at hr;cases hr)];rfl
   simp only[cq,ah,ud,aa];rw[hend]
   by_cases hE:Va c.Peers.l[n].End
   rotate_left
   ·right;refine⟨.inr false,?_, .inr ⟨rfl,bad fun h=>hE h.1.2.1⟩⟩;rw[ub hE]
    rfl
   rw[ua hE];simp only[cq,ah,ud,aa];have hmem:c.Peers.l[n].Key∈(c.Peers.l.map (·.Key)).take n↔c.Peers.l[n].Key∈(c.Peers.l.take n).map (·.Key):=by rw[ox]
   by_cases hk1:c.Peers.l[n].Key∈(c.Peers.l.map (·.Key)).take n
   ·right;refine⟨.inr false,?_, .inr ⟨rfl,bad fun h=>h.2.1 (hkz.2 (.inr (hmem.1 hk1)))⟩⟩;refine((WB (l:=c.Peers.l.map (·.Key)) (b:= .inr (.inr false)) n (by rw[cj];omega) (by rw[cj];omega) ?_ ?_).1 hk1).trans ?_
    ·intro i hi;rw[t6 (by rw[t8];omega),By,ab (show i<c.Peers.l.length by omega),nj];simp only[aa];exact⟨fun e=>by rw[t6 (ua e)];rfl,fun e=>by rw[t7 (by rw[ub e];simp)]⟩
    ·rw[t7 (by rw[t8];omega)]
    ·rfl
   have hk:c.Peers.l[n].Key∉Hp (c.Peers.l.take n):=fun h=>(hkz.1 h).elim hk0 fun h=>hk1 (hmem.2 h)
   by_cases hN:V5 c.Peers.l[n].Allowed.l∧(Fz (c.Peers.l.take n)++c.Peers.l[n].Allowed.l).Nodup
   ·left;refine⟨(((n+1:Nat):Int),YF (Fz (c.Peers.l.take (n+1)))),?_,⟨n+1,rfl,by omega,rfl,hg.2 ⟨h4,⟨hkeep,hE,hN.1⟩,hk,hN.2⟩⟩,by dsimp only;omega⟩;refine((WB (l:=c.Peers.l.map (·.Key)) (b:= .inr (.inr false)) n (by rw[cj];omega) (by rw[cj];omega) ?_ ?_).2 hk1).trans ?_
    ·intro i hi;rw[t6 (by rw[t8];omega),By,ab (show i<c.Peers.l.length by omega),nj];simp only[aa];exact⟨fun e=>by rw[t6 (ua e)];rfl,fun e=>by rw[t7 (by rw[ub e];simp)]⟩
    ·rw[t7 (by rw[t8];omega)]
    ·dsimp only[dw];refine(ue (fun x=>qy x _) (mY c.Peers.l[n].Allowed.l (.inr (.inr false)) ?_ ?_ (Fz (c.Peers.l.take n)) h4.2.2 (by omega))).trans ?_
     ·intro k m h hm;have hgl:=Ty m;have htst:=Y1 h (by omega) (f:=N8) (g:=Qs) Ug tX;dsimp only;rw[t6 (by simpa using h),By,ab h,aa];simp only[FL]at htst;rw[Ug]at htst ⊢;simp only[aa]at htst ⊢;rw[htst]
      by_cases hok:UE c.Peers.l[n].Allowed.l k
      ·rw[ua hok];simp only[aa,cq,ah,ud]
       by_cases hin:c.Peers.l[n].Allowed.l[k]∈m
       ·rw[t7 (fun h=>h.2 hin)];refine((WC (l:=m) (x:=c.Peers.l[n].Allowed.l[k]) (b:=(Sum.inr (Sum.inr (Sum.inr (Sum.inr false))):(Int×GS Av)⊕(GS Av⊕((Int×GS Av)⊕(GS Av⊕Bool))))) (by omega) ?_ ?_).1 hin).trans ?_
        skip
        ·intro i hi;rw[t6 (by rw[t8,hgl];omega),E7 (by rw[hgl];exact hi),aa,hgl,ab hi];simp only[ak,aa,xC];exact⟨fun e=>by rw[t6 (ua e)],fun e=>by rw[t7 (by rw[ub e];simp)]⟩
        ·rw[t7 (by rw[t8,hgl];omega)]
        ·rfl
       ·rw[t6 ⟨hok,hin⟩];refine((WC (l:=m) (x:=c.Peers.l[n].Allowed.l[k]) (b:=(Sum.inr (Sum.inr (Sum.inr (Sum.inr false))):(Int×GS Av)⊕(GS Av⊕((Int×GS Av)⊕(GS Av⊕Bool))))) (by omega) ?_ ?_).2 hin).trans ?_
        skip
        ·intro i hi;rw[t6 (by rw[t8,hgl];omega),E7 (by rw[hgl];exact hi),aa,hgl,ab hi];simp only[ak,aa,xC];exact⟨fun e=>by rw[t6 (ua e)],fun e=>by rw[t7 (by rw[ub e];simp)]⟩
        ·rw[t7 (by rw[t8,hgl];omega)]
        ·dsimp only[dw];rw[JE (by rw[hgl];unfold Ci;omega),show(k:Int)+1=((k+1:Nat):Int) by omega,B6 (by omega),hgl,Tx]
         rfl
      ·rw[ub hok,t7 (fun h=>hok h.1)]
       rfl
     ·intro m;dsimp only;rw[t7 (by simp)]
     ·rw[t6 hN,hw1,ht,V7]
      rfl
   ·right;refine⟨.inr false,?_, .inr ⟨rfl,bad fun h=>hN ⟨h.1.2.2,h.2.2⟩⟩⟩;refine((WB (l:=c.Peers.l.map (·.Key)) (b:= .inr (.inr false)) n (by rw[cj];omega) (by rw[cj];omega) ?_ ?_).2 hk1).trans ?_
    ·intro i hi;rw[t6 (by rw[t8];omega),By,ab (show i<c.Peers.l.length by omega),nj];simp only[aa];exact⟨fun e=>by rw[t6 (ua e)];rfl,fun e=>by rw[t7 (by rw[ub e];simp)]⟩
    ·rw[t7 (by rw[t8];omega)]
    ·dsimp only[dw];refine(ue (fun x=>qy x _) (mY c.Peers.l[n].Allowed.l (.inr (.inr false)) ?_ ?_ (Fz (c.Peers.l.take n)) h4.2.2 (by omega))).trans ?_
     ·intro k m h hm;have hgl:=Ty m;have htst:=Y1 h (by omega) (f:=N8) (g:=Qs) Ug tX;dsimp only;rw[t6 (by simpa using h),By,ab h,aa];simp only[FL]at htst;rw[Ug]at htst ⊢;simp only[aa]at htst ⊢;rw[htst]
      by_cases hok:UE c.Peers.l[n].Allowed.l k
      ·rw[ua hok];simp only[aa,cq,ah,ud]
       by_cases hin:c.Peers.l[n].Allowed.l[k]∈m
       ·rw[t7 (fun h=>h.2 hin)];refine((WC (l:=m) (x:=c.Peers.l[n].Allowed.l[k]) (b:=(Sum.inr (Sum.inr (Sum.inr (Sum.inr false))):(Int×GS Av)⊕(GS Av⊕((Int×GS Av)⊕(GS Av⊕Bool))))) (by omega) ?_ ?_).1 hin).trans ?_
        skip
        ·intro i hi;rw[t6 (by rw[t8,hgl];omega),E7 (by rw[hgl];exact hi),aa,hgl,ab hi];simp only[ak,aa,xC];exact⟨fun e=>by rw[t6 (ua e)],fun e=>by rw[t7 (by rw[ub e];simp)]⟩
        ·rw[t7 (by rw[t8,hgl];omega)]
        ·rfl
       ·rw[t6 ⟨hok,hin⟩];refine((WC (l:=m) (x:=c.Peers.l[n].Allowed.l[k]) (b:=(Sum.inr (Sum.inr (Sum.inr (Sum.inr false))):(Int×GS Av)⊕(GS Av⊕((Int×GS Av)⊕(GS Av⊕Bool))))) (by omega) ?_ ?_).2 hin).trans ?_
        skip
        ·intro i hi;rw[t6 (by rw[t8,hgl];omega),E7 (by rw[hgl];exact hi),aa,hgl,ab hi];simp only[ak,aa,xC];exact⟨fun e=>by rw[t6 (ua e)],fun e=>by rw[t7 (by rw[ub e];simp)]⟩
        ·rw[t7 (by rw[t8,hgl];omega)]
        ·dsimp only[dw];rw[JE (by rw[hgl];unfold Ci;omega),show(k:Int)+1=((k+1:Nat):Int) by omega,B6 (by omega),hgl,Tx]
         rfl
      ·rw[ub hok,t7 (fun h=>hok h.1)]
       rfl
     ·intro m;dsimp only;rw[t7 (by simp)]
     ·rw[t7 hN]
      rfl
  ·obtain rfl:n=c.Peers.l.length:=by omega
   right;rw[t7 (by simp)];rw[f9]at h4 ⊢;exact⟨_,rfl, .inl ⟨rfl,h4⟩⟩
 ·rintro _ (⟨rfl,hG⟩|⟨rfl,hG⟩)
  ·simp only[dw,Ty];congr 1;rw[decide_eq_decide];constructor
   ·intro h;exact⟨hp,by omega,hG,by omega⟩
   ·intro h;have:=h.2.2.2;omega
  ·have: ¬FU c:=fun h=>hG h.2.2.1;simp[this]
end
section
theorem uK{σ β:Type}(n:Nat)(S:Nat→σ){F:σ→Option (σ⊕β)}{r:β}{s:σ}(h0:s=S 0)(h1: ∀i,i<n→F (S i)=some (.inl (S (i+1))))(h2:F (S n)=some (.inr r)):iter F s=some r:=by
 subst h0;have key: ∀k,k≤n→iter F (S (n-k))=some r:=by
  intro k
  induction k with
  |zero=>intro _;exact CQ h2
  |succ k ih=>
   intro hk;rw[Fd (h1 (n-(k+1)) (by omega)),show n-(k+1)+1=n-k by omega];exact ih (by omega)
 have:=key n (bc _)
 rwa [jz]at this
theorem Zi{α:Type}{bytes:Nat}{l m:List α}(h:(l.length+m.length)*bytes≤Ci):SS bytes (GS.mk l) m=some (.mk (l++m)):=by
 unfold SS;rw[C0,t6 h]
 rfl
abbrev fK(w:Int)(K:Ar UInt8 32):Aq:=⟨w,K,0,zE,zP⟩
abbrev fN(w:Int)(n:UInt64):Aq:=⟨w,zK,n,zE,zP⟩
abbrev fE(e:AJ):Aq:=⟨9,zK,0,e,zP⟩
abbrev fP(p:Av):Aq:=⟨12,zK,0,zE,p⟩
def lH(p:AE):List Aq:=[fK 5 p.Key,fK 8 p.Psk,fN 13 1]++if p.End=noE then []else [fE p.End]
def ZD(p:AE):List Aq:=lH p++[fN 14 p.Sent,fN 15 p.Got,fN 10 (Cw p.Keep)]
def Fg(p:AE):List Aq:=ZD p++p.Allowed.l.map fP
def Xa(c:AW):List Aq:=[fK 1 c.Private,fN 2 (Cw c.Port),fN 3 (Cw (c.Mark.toNat:Int))]
def E6(c:AW):List Aq:=Xa c++c.Peers.l.flatMap Fg
theorem wR(p:AE):(lH p).length≤4:=by unfold lH;split<;>simp
theorem nP(p:AE):(ZD p).length≤7:=by
 have:=wR p;unfold ZD;simp only[an,ba,bu];omega
theorem ZK(p:AE):(Fg p).length≤7+p.Allowed.l.length:=by
 have:=nP p;unfold Fg;simp only[an,cj];omega
theorem nU: ∀l:List AE,(l.flatMap Fg).length≤7*l.length+(Fz l).length
 |[]=>by simp
 |p::l=>by
  have h1:=nU l;have h2:=ZK p;simp only[d5,an,ba,Fz]at h1 ⊢;omega
theorem take_flat(l:List AE)(i:Nat):((l.take i).flatMap Fg).length≤(l.flatMap Fg).length:=by
 conv=>rhs;rw[←c9 i l,kl,an]
 omega
theorem AaE{α β:Type}(f:α→List β)(l:List α){i:Nat}(h:i<l.length):(l.take (i+1)).flatMap f=(l.take i).flatMap f++f l[i]:=by
 rw[bf h,kl];simp
theorem map_take{α β:Type}(f:α→β)(l:List α){i:Nat}(h:i<l.length):(l.take (i+1)).map f=(l.take i).map f++[f l[i]]:=by
 rw[bf h,df];rfl
theorem peer_val(p:AE)(h:p.Allowed.l.length≤1000):Ms p=some (.mk (Fg p)):=by
 have hl: ∀q:GS Aq,q= .mk (lH p)→(SS 112 q [fN 14 p.Sent,fN 15 p.Got,fN 10 (Cw p.Keep)])=some (.mk (ZD p)):=by
  rintro _ rfl;have:=wR p;rw[Zi (by unfold Ci;simp only[ba,bu];omega)]
  rfl
 unfold Ms;refine(ue (fun x:Option Bool=>x.bind _) (nN p.End)).trans ?_;have he:(if(!decide (p.End=(⟨Ao.z,0⟩:AJ)))=true then(SS 112 (GS.mk [fK 5 p.Key,fK 8 p.Psk,fN 13 1]) [fE p.End]).bind fun x38=>some (.inl x38)else some (.inl (GS.mk [fK 5 p.Key,fK 8 p.Psk,fN 13 1])):Option (GS Aq⊕GS Aq))=some (.inl (.mk (lH p))):=by
  by_cases hn:p.End=noE
  ·have hn':p.End=(⟨Ao.z,0⟩:AJ):=hn;rw[t7 (by rw[ua hn'];decide)];unfold lH;rw[t6 hn]
   rfl
  ·have hn': ¬p.End=(⟨Ao.z,0⟩:AJ):=hn;rw[t6 (by rw[ub hn'];rfl),Zi (by unfold Ci;simp only[ba,bu];omega)];unfold lH;rw[t7 hn]
   rfl
 refine(ue (fun x:Option (GS Aq⊕GS Aq)=>x.bind _) he).trans ?_;refine(ue (fun x:Option (GS Aq)=>x.bind _) (hl _ rfl)).trans ?_;have hh:=nP p;have hi:(iter _ ((0:Int),GS.mk (ZD p)):Option (GS Aq⊕GS Aq))=some (.inl (.mk (Fg p))):=
  uK (F:=fun s23:Int×GS Aq=>(if(decide (s23.1<(p.Allowed.l.length:Int)))=true then
   (DN p.Allowed.l s23.1).bind fun x26=>(SS 112 s23.2 [fP x26]).bind fun x33=>some (.inl (tx tz (s23.1+1),x33))else some (.inr (.inl s23.2)):Option ((Int×GS Aq)⊕(GS Aq⊕GS Aq))))
   p.Allowed.l.length (fun i=>((i:Int),GS.mk (ZD p++(p.Allowed.l.take i).map fP))) (by simp) (by
   intro i hi;dsimp only;rw[t6 (by simpa using hi),By,ab hi,aa,Zi (by unfold Ci;simp only[an,cj,aq,ba,bu];omega),aa,map_take fP _ hi,show(i:Int)+1=((i+1:Nat):Int) by omega,B6 (by omega),br]) (by
   dsimp only;rw[t7 (by simp),f9];first|done|rfl)
 exact(ue (fun x:Option (GS Aq⊕GS Aq)=>x.bind _) hi).trans rfl
theorem mQ{l:List AE}{p:AE}(h:p∈l):p.Allowed.l.length≤(Fz l).length:=by
 induction l with
 |nil=>cases h
 |cons q l ih=>
  simp only[Fz,d5,an]at ih ⊢;rcases bm.1 h with rfl|h
  ·omega
  ·have:=ih h;omega
theorem Xg{c:AW}(h:FU c):(c.Peers.l.flatMap Fg).length≤176:=by
 have:=nU c.Peers.l;have h1:=h.2.1;have h2:=h.2.2.2;omega
def txF(l:List Aq):AP:=OG (l.map fun f=>Ds (Hg f))
theorem lY{n:Int}(h:NV n):(Cw n).toNat≤65535:=by
 obtain⟨m,rfl⟩: ∃m:Nat,n=m:=⟨n.toNat,by have:=h.1;omega⟩;have:=h.2;rw[u64N (by omega)];omega
theorem ok_head{c:AW}(h:NV c.Port): ∀f∈Xa c,oX f:=by
 intro f hf;simp only[Xa,bm,f8,or_false]at hf;rcases hf with rfl|rfl|rfl
 ·exact .key (.inl rfl)
 ·exact .num (.inl rfl) (dz _) (lY h)
 ·refine .num (.inr (.inl rfl)) (dz _) ?_;have:=c.Mark.toNat_lt;rw[u64N (by omega)];show c.Mark.toNat≤4294967295;omega
theorem ok_end{p:AE}(h:M6 p): ∀f∈lH p,oX f:=by
 intro f hf;unfold lH at hf;rcases cf.1 hf with hf|hf
 ·simp only[bm,f8,or_false]at hf;rcases hf with rfl|rfl|rfl
  ·exact .key (.inr (.inl rfl))
  ·exact .key (.inr (.inr rfl))
  ·exact .num (.inr (.inr (.inr (.inl rfl)))) (by decide) (by decide)
 ·split at hf
  ·cases hf
  ·rename_i hne;simp only[bm,f8,or_false]at hf;subst hf;exact .host (h.2.1.resolve_left hne)
theorem ok_peer{p:AE}(h:M6 p): ∀f∈Fg p,oX f:=by
 intro f hf;unfold Fg ZD at hf;rcases cf.1 hf with hf|hf
 ·rcases cf.1 hf with hf|hf
  ·exact ok_end h f hf
  ·simp only[bm,f8,or_false]at hf;rcases hf with rfl|rfl|rfl
   ·exact .num (.inr (.inr (.inr (.inr (.inl rfl))))) (dz _) (by have:=p.Sent.toNat_lt;show p.Sent.toNat≤18446744073709551615;omega)
   ·exact .num (.inr (.inr (.inr (.inr (.inr (.inl rfl)))))) (dz _) (by have:=p.Got.toNat_lt;show p.Got.toNat≤18446744073709551615;omega)
   ·exact .num (.inr (.inr (.inl rfl))) (dz _) (lY h.1)
 ·obtain⟨q,hq,rfl⟩:=eh.1 hf;obtain⟨i,hi,rfl⟩:=gm.1 hq;obtain⟨p',hp',hr,_⟩:=h.2.2 i hi;rw[ab hi]at hp';cases hp';exact .pre hr
theorem ok_flat{l:List AE}(h: ∀p∈l,M6 p): ∀f∈l.flatMap Fg,oX f:=by
 intro f hf;obtain⟨p,hp,hf⟩:=List.mem_flatMap.1 hf;exact ok_peer (h p hp) f hf
theorem qK{c:AW}(h:FU c): ∀f∈E6 c,oX f:=by
 intro f hf;rcases cf.1 hf with hf|hf
 ·exact ok_head h.1 f hf
 ·exact ok_flat h.2.2.1.1 f hf
theorem zH:oX (ON 0):= .num (w:=16) (n:=0) (.inr (.inr (.inr (.inr (.inr (.inr rfl)))))) (by decide) (by decide)
def Lh(c:AW):AP:=txF (E6 c++[ON 0])++[10]
open Classical in
theorem Pc(c:AW)(hs:Rf c):Gv c=some (if FU c then(Lh c,0)else([],1)):=by
 have hr:=yH c hs;unfold Gv
 by_cases hc:FU c
 ·rw[ua hc]at hr;have hf:=Xg hc;have hlen:(E6 c++[ON 0]).length≤180:=by
   unfold E6 Xa;simp only[an,ba,bu];omega
  have hok: ∀f∈E6 c++[ON 0],oX f:=by
   intro f h;rcases cf.1 h with h|h
   ·exact qK hc f h
   ·simp only[bm,f8,or_false]at h;subst h;exact zH
  refine(ue (fun x:Option Bool=>x.bind _) hr).trans ?_;have hi:(iter _ ((0:Int),GS.mk (Xa c)):Option (GS Aq⊕(AP×Int)))=some (.inl (.mk (E6 c))):=
   uK (F:=fun s15:Int×GS Aq=>(if(decide (s15.1<(c.Peers.l.length:Int)))=true then
    (DN c.Peers.l s15.1).bind fun x18=>(Ms x18).bind fun x23=>(SS 112 s15.2 x23.l).bind fun x24=>some (.inl (tx tz (s15.1+1),x24))else some (.inr (.inl s15.2)):Option ((Int×GS Aq)⊕(GS Aq⊕(AP×Int)))))
    c.Peers.l.length (fun i=>((i:Int),GS.mk (Xa c++(c.Peers.l.take i).flatMap Fg))) (by simp) (by
    intro i hi;have hb:=take_flat c.Peers.l i;have hp:=mQ (eu hi);have h64:=hc.2.2.2;have hfl:=ZK c.Peers.l[i];dsimp only;rw[t6 (by simpa using hi),By,ab hi,aa,peer_val _ (by omega),aa,C0,Zi (by unfold Ci Xa;simp only[an,ba,bu];omega),aa,AaE _ _ hi,show(i:Int)+1=((i+1:Nat):Int) by omega,B6 (by have:=hc.2.1;omega),br]) (by
    dsimp only;rw[t7 (by simp),f9];first|done|rfl)
  refine(ue (fun x:Option (GS Aq⊕(AP×Int))=>x.bind _) hi).trans ?_;have h1:SS 112 (GS.mk (E6 c)) [ON 0]=some (.mk (E6 c++[ON 0])):=Zi (by
   simp only[an,ba,bu]at hlen ⊢;unfold Ci;omega)
  refine(ue (fun x:Option (GS Aq)=>x.bind _) h1).trans ?_;have h2:K3 (.mk (E6 c++[ON 0]))=some (.mk ((E6 c++[ON 0]).map Hg)):=by
   rw[pairs_val _ ((E6 c++[ON 0]).map fun f=>(Hg f,0)) ?_ (by rw[C0];omega)]
   ·rw[j0]
    rfl
   ·rw[C0,j0];exact rb fun f hf=>pair_ok (hok f hf)
  refine(ue (fun x:Option (GS At)=>x.bind _) h2).trans ?_;have h3:Ip (.mk ((E6 c++[ON 0]).map Hg))=some (Lh c,0):=by
   rw[block_val _ ?_]
   ·unfold AaY;rw[C0,t7 (by rw[cj];omega),ol.2 ?_]
    ·show some (OG (((E6 c++[ON 0]).map Hg).map Ds)++[10],(0:Int))=_;rw[j0]
     rfl
    ·intro p hp;obtain⟨f,hf,rfl⟩:=eh.1 hp;rw[badP_of (pZ (hok f hf))]
     decide
   ·intro p hp;obtain⟨f,hf,rfl⟩:=eh.1 hp;have:=(pZ (hok f hf)).2.2.2.2;unfold Ds at this;simp only[an,ba]at this;omega
  refine(ue (fun x:Option (AP×Int)=>x.bind _) h3).trans ?_;rw[t6 hc]
  rfl
 ·rw[ub hc]at hr;refine(ue (fun x:Option Bool=>x.bind _) hr).trans ?_;rw[t7 hc]
  rfl
theorem Aa2(c:AW): ∃b,Uf c=some b∧(b=false→Rf c):=by
 unfold Uf
 by_cases h:20<c.Peers.l.length
 ·exact⟨true,by rw[t6 (by rw[t8];omega)],by simp⟩
 ·rw[t7 (by rw[t8];omega)];obtain⟨r,e,hq⟩: ∃r:Unit⊕Bool,iter (fun s4:Int=>if(decide (s4<(c.Peers.l.length:Int)))=true then
    (DN c.Peers.l s4).bind fun x10=>
    if(decide (80<(x10.Allowed.l.length:Int)))=true then
    (some true).map fun r=> .inr (.inr r)
    else
    some (.inl (tx tz (s4+1)))
    else
    some (.inr (.inl ()))) 0=some r∧(r= .inr true∨(r= .inl ()∧Rf c)):=by
   refine K0 (fun s:Int=>c.Peers.l.length-s.toNat) (fun s:Int=> ∃n:Nat,s=n∧n≤c.Peers.l.length∧ ∀i (hi:i<n) (hl:i<c.Peers.l.length),c.Peers.l[i].Allowed.l.length≤80)
    (fun r:Unit⊕Bool=>r= .inr true∨(r= .inl ()∧Rf c)) ?_ ⟨0,rfl,by omega,fun i hi=>absurd hi (by omega)⟩
   rintro _ ⟨n,rfl,h1,h2⟩
   by_cases hn:n<c.Peers.l.length
   ·rw[t6 (by simpa using hn),By,ab hn,aa]
    by_cases h8:80<c.Peers.l[n].Allowed.l.length
    ·rw[t6 (by rw[t8];omega)];exact .inr ⟨_,rfl, .inl rfl⟩
    ·rw[t7 (by rw[t8];omega),show(n:Int)+1=((n+1:Nat):Int) by omega,B6 (by omega)];refine .inl ⟨_,rfl,⟨n+1,rfl,by omega,fun i hi hl=> ?_⟩,by omega⟩
     by_cases e:i<n
     ·exact h2 i e hl
     ·obtain rfl:i=n:=by omega
      omega
   ·rw[t7 (by simpa using hn)];refine .inr ⟨_,rfl, .inr ⟨rfl,by omega,fun p hp=> ?_⟩⟩;obtain⟨i,hi,rfl⟩:=gm.1 hp;exact dj (h2 i (by omega) hi) (by decide)
  refine⟨bd (fun _=>false) (fun b=>b) r,(ue (fun x:Option (Unit⊕Bool)=>x.bind (bd (fun _=>some false) some)) e).trans (by cases r<;>rfl),?_⟩;rcases hq with rfl|⟨rfl,hq⟩
  ·intro h;cases h
  ·exact fun _=>hq
end
section
def VG(c:UInt8):Bool:=decide (48≤c.toNat∧c.toNat≤57)
def NL(n:Nat)(s:AP):Nat:=s.foldl (fun n c=>10*n+(c.toNat-48)) n
def Du(s:AP)(m:Nat):Nat×Int:=
 if s=[]∨s.all VG=false∨(1<s.length∧s[0]? =some 48)then(0,5)else if m<NL 0 s then(0,6)else(NL 0 s,0)
theorem dig_val: ∀k:Fin 10,VG (bb (48+k.1))=true∧(bb (48+k.1)).toNat=48+k.1∧(1≤k.1→bb (48+k.1)≠48):=by decide+kernel
theorem hX: ∀(k n:Nat),n<10^k→n<18446744073709551616→Dt n≠[]∧(Dt n).all VG=true∧NL 0 (Dt n)=n∧(1≤n→(Dt n)[0]? ≠some 48)∧(n<10→(Dt n).length=1)
 |0,n,h,hn=>by
  obtain rfl:n=0:=by omega
  decide
 |k+1,n,h,hn=>by
  rw[digs_eq hn]
  by_cases h10:n<10
  ·obtain⟨d1,d2,d3⟩:=dig_val ⟨n,h10⟩;rw[t6 h10];refine⟨by simp,by simpa using d1,?_,fun h1=> ?_,fun _=>rfl⟩
   ·show 10*0+((bb (48+n)).toNat-48)=n;rw[d2,iq,si,dc]
   ·simpa using d3 h1
  ·rw[t7 h10];obtain⟨i1,i2,i3,i4,_⟩:=hX k (n/10) (by rw[i8]at h;omega) (by omega);obtain⟨d1,d2,_⟩:=dig_val ⟨n%10,by omega⟩;have d2:(bb (48+n%10)).toNat=48+n%10:=d2;refine⟨by simp,by rw[ka,i2];simpa using d1,?_,fun _=> ?_,fun h=>absurd h h10⟩
   ·unfold NL at i3 ⊢;rw[List.foldl_append,i3];show 10*(n/10)+((bb (48+n%10)).toNat-48)=n;rw[d2];omega
   ·rw[bq (nx.2 i1)];exact i4 (by omega)
theorem digs_ok{n:Nat}(hn:n<18446744073709551616):Dt n≠[]∧(Dt n).all VG=true∧NL 0 (Dt n)=n∧(1≤n→(Dt n)[0]? ≠some 48)∧(n<10→(Dt n).length=1):=
 hX 20 n (dv hn (by decide)) hn
theorem QH{n m:Nat}(hn:n<18446744073709551616)(h:n≤m):Du (Dt n) m=(n,0):=by
 obtain⟨h1,h2,h3,h4,h5⟩:=digs_ok hn;unfold Du;rw[h3,t7,t7 (by omega)];rintro(h|h|⟨hl,h0⟩)
 ·exact h1 h
 ·rw[h2]at h;cases h
 ·by_cases h10:n<10
  ·rw[h5 h10]at hl;omega
  ·exact h4 (by omega) h0
def K2(c:UInt8):Option Nat:=if 48≤c.toNat∧c.toNat≤57 then some (c.toNat-48)else if 97≤c.toNat∧c.toNat≤102 then some (c.toNat-87)else none
def UH:AP→Option (List UInt8)
 |[]=>some []
 |[_]=>none
 |a::b::l=>(K2 a).bind fun x=>(K2 b).bind fun y=>(UH l).map fun r=>bb (16*x+y)::r
theorem hexV_hd: ∀k:Fin 16,K2 (hd k.1)=some k.1:=by decide+kernel
theorem nO: ∀l:List UInt8,UH (Nl l)=some l
 |[]=>rfl
 |b::l=>by
  have h:=b.toNat_lt;show(K2 (hd (b.toNat/16))).bind (fun x=>(K2 (hd (b.toNat%16))).bind fun y=>(UH (Nl l)).map fun r=>bb (16*x+y)::r)=_;rw[hexV_hd ⟨b.toNat/16,by omega⟩,hexV_hd ⟨b.toNat%16,by omega⟩,nO l];show some (bb (16*(b.toNat/16)+b.toNat%16)::l)=_;rw[show 16*(b.toNat/16)+b.toNat%16=b.toNat by omega,Iq]
def ar32(l:List UInt8):Ar UInt8 32:=if h:l.length=32 then⟨l,h⟩else zK
def Aa4(v:AP):Ar UInt8 32×Int:=match UH v with
 |none=>(zK,5)
 |some l=>if l.length<32 then(zK,3)else if 32<l.length then(zK,4)else(ar32 l,0)
theorem Y7(K:Ar UInt8 32):Aa4 (Nl K.l)=(K,0):=by
 unfold Aa4;rw[nO];have h:=K.len;dsimp only;rw[t7 (by omega),t7 (by omega)];unfold ar32;rw[dif_pos h]
def WU(c:UInt8):UInt8:=if 65≤c.toNat∧c.toNat≤70 then bb (c.toNat+32)else c
def U3(n:Nat):AP→Option Nat
 |[]=>some n
 |c::l=>(K2 (WU c)).bind fun v=>U3 (16*n+v) l
def sO(s:AP):Option Nat:=if 1≤s.length∧s.length≤4 then U3 0 s else none
theorem sU: ∀(s t:AP) (n:Nat),U3 n (s++t)=(U3 n s).bind fun m=>U3 m t
 |[],t,n=>rfl
 |c::s,t,n=>by
  show(K2 (WU c)).bind (fun v=>U3 (16*n+v) (s++t))=((K2 (WU c)).bind fun v=>U3 (16*n+v) s).bind _;cases K2 (WU c)with
  |none=>rfl
  |some v=>exact sU s t _
theorem AbG: ∀k:Fin 16,K2 (WU (hd k.1))=some k.1:=by decide+kernel
theorem Q4: ∀k:Fin 16,hd k.1≠58∧hd k.1≠47∧hd k.1≠32∧hd k.1≠93∧hd k.1≠91∧hd k.1≠46:=by decide+kernel
theorem YE: ∀(k n:Nat),n<16^k→n<65536→1≤(SU n).length∧((SU n).length≤k∨(k=0∧(SU n).length≤1))∧U3 0 (SU n)=some n
 |0,n,h,hn=>by
  obtain rfl:n=0:=by omega
  decide
 |k+1,n,h,hn=>by
  rw[grp_eq hn]
  by_cases h16:n<16
  ·rw[t6 h16];refine⟨by simp, .inl (by simp),?_⟩;show(K2 (WU (hd n))).bind (fun v=>U3 (16*0+v) [])=_;rw[AbG ⟨n,h16⟩];simp[U3]
  ·rw[t7 h16];obtain⟨i1,i2,i3⟩:=YE k (n/16) (by rw[i8]at h;omega) (by omega);refine⟨by simp, .inl ?_,?_⟩
   ·rcases i2 with i2|⟨rfl,i2⟩
    ·simpa using i2
    ·simp at h;omega
   ·rw[sU,i3];show(K2 (WU (hd (n%16)))).bind (fun v=>U3 (16*(n/16)+v) [])=_;rw[AbG ⟨n%16,by omega⟩];show some (16*(n/16)+n%16)=_;rw[show 16*(n/16)+n%16=n by omega]
theorem rdG_grp{n:Nat}(h:n<65536):sO (SU n)=some n:=by
 obtain⟨h1,h2,h3⟩:=YE 4 n (by omega) h;unfold sO;rw[t6 ⟨h1,by omega⟩,h3]
theorem gA: ∀(k n:Nat) (c:UInt8),c∈Tv k n→ ∃j:Fin 16,c=hd j.1
 |0,_,c,h=>by simp[Tv]at h
 |k+1,n,c,h=>by
  rw[Tv]at h
  split at h
  ·rename_i hn;exact⟨⟨n,hn⟩,by simpa using h⟩
  ·rcases cf.1 h with h|h
   ·exact gA k _ c h
   ·exact⟨⟨n%16,by omega⟩,by simpa using h⟩
theorem qZ{n:Nat}{c:UInt8}(hc: ∀j:Fin 16,hd j.1≠c):c∉SU n:=fun h=>by
 obtain⟨j,e⟩:=gA 5 n c h;exact hc j e.symm
theorem digs_no{n:Nat}{c:UInt8}(hn:n<18446744073709551616)(hc:VG c=false):c∉Dt n:=fun h=>by
 have:=cb.1 (digs_ok hn).2.1 c h;rw[hc]at this;cases this
theorem QZ{c:UInt8}: ∀{l:List AP},l≠[]→(∀x∈l,c∉x)→AT c (D4 [c] l)=l
 |[],h,_=>absurd rfl h
 |[x],_,h=>Gn fun y hy e=>h x (by simp) (e▸hy)
 |x::y::r,_,h=>by
  show AT c (x++[c]++D4 [c] (y::r))=_;rw[br,gb,Fi (fun z hz (e:z=c)=>h x (by simp) (by rw[←e];exact hz)),QZ (by simp) fun z hz=>h z (a8 _ hz)]
theorem fI{sep:AP}{c:UInt8}(hs:c∉sep): ∀{l:List AP},(∀x∈l,c∉x)→c∉D4 sep l
 |[],_=>by simp[D4]
 |[x],h=>by simpa [D4]using h
 |x::y::r,h=>by
  show c∉x++sep++D4 sep (y::r);simp only[cf,not_or];exact⟨⟨h x (by simp),hs⟩,fI hs fun z hz=>h z (a8 _ hz)⟩
def O4:List AP→Int
 |[]=>0
 |x::l=>if(Du x 255).2=0 then O4 l else(Du x 255).2
def zero4:List UInt8:=[0,0,0,0]
def DS(s:AP):List UInt8×Int:=
 if(AT 46 s).length=4 then(if O4 (AT 46 s)=0 then((AT 46 s).map fun x=>bb (Du x 255).1,0)else(zero4,O4 (AT 46 s)))else(zero4,5)
theorem oK: ∀l:List UInt8,O4 (l.map fun b=>Dt b.toNat)=0
 |[]=>rfl
 |b::l=>by
  have h:=b.toNat_lt;show(if(Du (Dt b.toNat) 255).2=0 then O4 (l.map fun b=>Dt b.toNat)else _)=0;rw[QH (by omega) (by omega),t6 rfl,oK l]
theorem tY{B:List UInt8}(h:B.length=4):DS (WJ B)=(B,0):=by
 have hs:AT 46 (WJ B)=B.map fun b=>Dt b.toNat:=QZ (fun e=>by rw[List.map_eq_nil_iff]at e;subst e;cases h) fun x hx=>by
  obtain⟨b,_,rfl⟩:=eh.1 hx;exact digs_no (by have:=b.toNat_lt;omega) (by decide)
 unfold DS;rw[hs,cj,t6 h,oK,t6 rfl,j0];have:(fun x=>bb (Du x 255).1)∘(fun b:UInt8=>Dt b.toNat)=id:=by
  funext b;have:=b.toNat_lt;show bb (Du (Dt b.toNat) 255).1=b;rw[QH (by omega) (by omega),Iq]
 rw[this,List.map_id]
def Il:AP→Option (AP×AP)
 |[]=>none
 |[_]=>none
 |a::b::r=>if a=58∧b=58 then some ([],r)else(Il (b::r)).map fun p=>(a::p.1,p.2)
def ET(last:Bool):List AP→Option (List Nat)
 |[]=>some []
 |x::r=>match sO x with
  |some n=>(ET last r).map fun l=>n::l
  |none=>if r=[]∧last=true∧(DS x).2=0 then some [256*((DS x).1.getD 0 0).toNat+((DS x).1.getD 1 0).toNat,256*((DS x).1.getD 2 0).toNat+((DS x).1.getD 3 0).toNat]else none
def Sl(last:Bool)(s:AP):Option (List Nat):=if s=[]then some []else ET last (AT 58 s)
def Zc(l:List Nat):List UInt8:=l.flatMap fun n=>[bb (n/256),bb (n%256)]
def sA(s:AP):Option (List UInt8):=
 match Il s with
 |none=>(Sl true s).bind fun l=>if l.length=8 then some (Zc l)else none
 |some (a,b)=>(Sl false a).bind fun l=>(Sl true b).bind fun m=>if l.length+m.length≤7 then some (Zc (l++az (8-l.length-m.length) 0++m))else none
theorem nQ(last:Bool): ∀{l:List Nat},(∀n∈l,n<65536)→ET last (l.map SU)=some l
 |[],_=>rfl
 |n::l,h=>by
  rw[bh,ET,rdG_grp (h n (by simp)),nQ last fun m hm=>h m (a8 _ hm)]
  rfl
theorem AaA(n:Nat)(h:n<65536):SU n≠[]:=fun e=>by
 have:=(YE 4 n (by omega) h).1;rw[e]at this;simp at this
theorem V3{l:List Nat}(hl:l≠[]):AT 58 (P5 l)=l.map SU:=
 QZ (by simpa using hl) fun x hx=>by
  obtain⟨n,_,rfl⟩:=eh.1 hx;exact qZ fun j=>(Q4 j).1
theorem tR{l:List Nat}(h: ∀n∈l,n<65536):P5 l=[]↔l=[]:=by
 constructor
 ·intro e;cases l with
  |nil=>rfl
  |cons n l=>
   have:=V3 (l:=n::l) (by simp);rw[e]at this;have e2:=(ia this).1;exact absurd e2.symm (AaA n (h n (by simp)))
 ·rintro rfl;rfl
theorem VC(last:Bool){l:List Nat}(h: ∀n∈l,n<65536):Sl last (P5 l)=some l:=by
 unfold Sl
 by_cases e:l=[]
 ·subst e;rfl
 ·rw[t7 (fun x=>e ((tR h).1 x)),V3 e,nQ last h]
def Flat(s:AP):Prop:=Il s=none∧ ∀m,s≠m++[58]
theorem nT: ∀{s:AP} (r:AP),Flat s→Il (s++58::58::r)=some (s,r)
 |[],r,_=>by simp[Il]
 |[a],r,⟨_,h⟩=>by
  have ha:a≠58:=fun e=>h [] (by rw[e];rfl);show(if a=58∧(58:UInt8)=58 then _ else(Il (58::58::r)).map fun p=>(a::p.1,p.2))=_;rw[t7 (fun e=>ha e.1)];simp[Il]
 |a::b::s,r,⟨h1,h2⟩=>by
  rw[Il]at h1
  by_cases hc:a=58∧b=58
  ·rw[t6 hc]at h1;cases h1
  ·rw[t7 hc]at h1;have ih:=nT (s:=b::s) r ⟨by simpa using h1,fun m e=>h2 (a::m) (by rw[e];rfl)⟩;show(if a=58∧b=58 then _ else(Il ((b::s)++58::58::r)).map fun p=>(a::p.1,p.2))=_;rw[t7 hc,ih]
   rfl
theorem Uq: ∀{s:AP},(58:UInt8)∉s→Flat s
 |[],_=>⟨rfl,fun m e=>by simp at e⟩
 |[a],h=>⟨rfl,fun m e=>by
   rcases List.append_eq_singleton_iff.1 e.symm with ⟨_,e⟩|⟨_,e⟩
   ·exact h (by rw[ia e |>.1];simp)
   ·cases e⟩
 |a::b::s,h=>by
  have ih:=Uq (s:=b::s) (fun x=>h (a8 _ x));refine⟨?_,fun m e=> ?_⟩
  ·rw[Il,t7 (fun e=>h (by simp[e.1])),ih.1];rfl
  ·exact h (by rw[e];simp)
theorem flat_join{x s:AP}(hx:(58:UInt8)∉x)(hx0:x≠[])(hs:Flat s)(hs0:s≠[])(hh:s.head?≠some 58):Flat (x++58::s):=by
 induction x with
 |nil=>exact absurd rfl hx0
 |cons a x ih=>
  have ha:a≠58:=fun e=>hx (by simp[e])
  by_cases hx1:x=[]
  ·subst hx1;obtain⟨b,t,rfl⟩:=fb hs0;have hb:b≠58:=fun e=>hh (by simp[e]);refine⟨?_,fun m e=> ?_⟩
   ·show Il (a::58::b::t)=none;rw[Il,t7 (fun e=>ha e.1),Il,t7 (fun e=>hb e.2),hs.1];rfl
   ·rcases m with _|⟨c,_|⟨d,m⟩⟩
    ·simp at e
    ·simp at e
    ·simp at e;exact hs.2 m (by simp[e])
  ·have i:=ih (fun h=>hx (a8 _ h)) hx1;obtain⟨b,t,rfl⟩:=fb hx1;refine⟨?_,fun m e=> ?_⟩
   ·show Il (a::b::(t++58::s))=none;have:=i.1;rw[Il,t7 (fun e=>ha e.1)];rw[cd]at this;rw[this];rfl
   ·rcases m with _|⟨c,m⟩
    ·simp at e
    ·simp only[cd,gr]at e;exact i.2 m (by rw[cd];exact e.2)
theorem Yu: ∀{l:List Nat},(∀n∈l,n<65536)→Flat (P5 l)
 |[],_=>Uq (by simp[P5,D4])
 |[n],_=>Uq (by simpa [P5,D4]using qZ fun j=>(Q4 j).1)
 |n::m::r,h=>by
  have hn:=h n (by simp);have ht: ∀k∈m::r,k<65536:=fun k hk=>h k (a8 _ hk);have e:P5 (n::m::r)=SU n++58::P5 (m::r):=by simp[P5,D4]
  rw[e];have h0:P5 (m::r)≠[]:=fun x=>by have:=(tR ht).1 x;cases this
  refine flat_join (qZ fun j=>(Q4 j).1) (AaA n hn) (Yu ht) h0 fun hh=> ?_;have hs:=V3 (l:=m::r) (by simp);obtain⟨b,t,e2⟩:=fb h0;rw[e2]at hh hs;have:b=58:=by simpa using hh
  subst this;rw[AT,t6 rfl]at hs;exact AaA m (ht m (by simp)) (ia hs).1.symm
theorem ZP{B:List UInt8}(h:B.length=16):Zc (vals B)=B:=by
 match B,h with
 |[b0,b1,b2,b3,b4,b5,b6,b7,b8,b9,b10,b11,b12,b13,b14,b15],_=>
  have key: ∀x y:UInt8,[bb ((256*x.toNat+y.toNat)/256),bb ((256*x.toNat+y.toNat)%256)]=[x,y]:=fun x y=>by
   have hx:=x.toNat_lt;have hy:=y.toNat_lt;rw[show(256*x.toNat+y.toNat)/256=x.toNat by omega,show(256*x.toNat+y.toNat)%256=y.toNat by omega,Iq,Iq]
  show [bb ((256*b0.toNat+b1.toNat)/256),bb ((256*b0.toNat+b1.toNat)%256)]++([bb ((256*b2.toNat+b3.toNat)/256),bb ((256*b2.toNat+b3.toNat)%256)]++([bb ((256*b4.toNat+b5.toNat)/256),bb ((256*b4.toNat+b5.toNat)%256)]++([bb ((256*b6.toNat+b7.toNat)/256),bb ((256*b6.toNat+b7.toNat)%256)]++([bb ((256*b8.toNat+b9.toNat)/256),bb ((256*b8.toNat+b9.toNat)%256)]++([bb ((256*b10.toNat+b11.toNat)/256),bb ((256*b10.toNat+b11.toNat)%256)]++([bb ((256*b12.toNat+b13.toNat)/256),bb ((256*b12.toNat+b13.toNat)%256)]++([bb ((256*b14.toNat+b15.toNat)/256),bb ((256*b14.toNat+b15.toNat)%256)]++[])))))))=_;rw[key,key,key,key,key,key,key,key]
  rfl
def tQ(l:List Bool)(p:Nat×Nat):Bool:=decide (p.1+p.2≤8)&&(lz p.2).all fun k=>l.getD (p.1+k) false
theorem lon_run: ∀a b c d e f g h:Bool,tQ [a,b,c,d,e,f,g,h] (Ni [a,b,c,d,e,f,g,h] 0 0 0 0)=true:=by decide+kernel
theorem lon_zero{l:List Bool}(h:l.length=8):tQ l (Ni l 0 0 0 0)=true:=by
 match l,h with
 |[a,b,c,d,e,f,g,k],_=>exact lon_run a b c d e f g k
theorem fill_zero{v:List Nat}(hv:v.length=8){p z:Nat}(h:tQ (cQ v) (p,z)=true):v.take p++az z 0++v.drop (p+z)=v:=by
 unfold tQ at h;simp only[af,t8,cb,List.mem_range]at h;obtain⟨h1,h2⟩:=h;have hz:(v.drop p).take z=az z 0:=by
  apply List.ext_getElem
  ·simp;omega
  ·intro i hi hj;have hi':i<z:=by simp at hj;exact hj
   have:=h2 i hi';rw[List.getElem_replicate,kd,List.getElem_drop];unfold cQ at this;rw[ma,ge,ab (by omega)]at this;simpa using this
 rw[←hz,br,←cw,c9,c9]
theorem colR_colT{B:List UInt8}(h:B.length=16):sA (YR B)=some B:=by
 have hv:=Mf B;have hlt:=vals_lt B;have hr:=lon_zero (l:=cQ (vals B)) (by simp[cQ,hv]);unfold YR;dsimp only;generalize Ni (cQ (vals B)) 0 0 0 0=q at hr ⊢;obtain⟨p,z⟩:=q
 by_cases hz:z<2
 ·rw[t6 hz];unfold sA;rw[(Yu hlt).1];dsimp only;rw[VC true hlt,aa,t6 hv,ZP h]
 ·rw[t7 hz];have ha: ∀n∈(vals B).take p,n<65536:=fun n hn=>hlt n (co hn);have hb: ∀n∈(vals B).drop (p+z),n<65536:=fun n hn=>hlt n (cz hn);have hpz:p+z≤8:=by
   unfold tQ at hr;simp only[af,t8]at hr;exact hr.1
  unfold sA;rw[br,show([58,58]:AP)++P5 ((vals B).drop (p+z))=58::58::P5 ((vals B).drop (p+z))from rfl,nT _ (Yu ha)];dsimp only;rw[VC false ha,aa,VC true hb,aa,t6 (by rw[aq,bk];omega)];have e:8-((vals B).take p).length-((vals B).drop (p+z)).length=z:=by rw[aq,bk];omega
  rw[e,fill_zero hv hr,ZP h]
def iY(l:List UInt8):Ar UInt8 16:=if h:l.length=16 then⟨l,h⟩else⟨az 16 0,rfl⟩
def zA:AG:=⟨0,⟨az 16 0,rfl⟩⟩
def J1(s:AP):AG×Int:=
 if(58:UInt8)∈s then(match sA s with|some l=>(⟨6,iY l⟩,0)|none=>(zA,5))
 else if(DS s).2=0 then(⟨4,iY ((DS s).1++az 12 0)⟩,0)else(zA,(DS s).2)
theorem eO{c:UInt8}(h:VG c=false)(h46:c≠46)(B:List UInt8):c∉WJ B:=
 fI (by simpa using h46) fun x hx=>by
  obtain⟨b,_,rfl⟩:=eh.1 hx;exact digs_no (by have:=b.toNat_lt;omega) h
theorem qC{c:UInt8}(h: ∀j:Fin 16,hd j.1≠c)(h58:c≠58)(l:List Nat):c∉P5 l:=
 fI (by simpa using h58) fun x hx=>by
  obtain⟨n,_,rfl⟩:=eh.1 hx;exact qZ h
theorem colT_no{c:UInt8}(h: ∀j:Fin 16,hd j.1≠c)(h58:c≠58)(B:List UInt8):c∉YR B:=by
 unfold YR;dsimp only
 split
 ·exact qC h h58 _
 ·simp only[cf,not_or,bm,f8,or_false];exact⟨⟨qC h h58 _,⟨h58,h58⟩⟩,qC h h58 _⟩
theorem wZ(B:List UInt8):(58:UInt8)∈YR B:=by
 unfold YR;dsimp only
 split
 ·have hv:=Mf B
  match vals B,hv with
  |a::b::r,_=>simp[P5,D4]
 ·simp
theorem sG{B:Ar UInt8 16}:iY B.l=B:=by unfold iY;rw[dif_pos B.len]
theorem ZS{a:AG}(h:Dm a=true):J1 (Ij a)=(a,0):=by
 unfold Ij;rw[t6 h]
 by_cases h4:a.V=4
 ·have hl:(a.B.l.take 4).length=4:=by rw[aq,a.B.len];rfl
  have hd:a.B.l.drop 4=az 12 0:=by
   unfold Dm at h;rw[t8]at h;rcases h with h|h
   ·rw[h4]at h;cases h
   ·exact h.2
  unfold J1;rw[t6 h4,t7 (eO (by decide) (by decide) _),tY hl,t6 rfl];dsimp only;rw[←hd,c9,sG,←h4]
 ·have h6:=eI h h4;unfold J1;rw[t7 h4,t6 (wZ _),colR_colT a.B.len];dsimp only;rw[sG,←h6]
theorem jB{c:UInt8}(hd':VG c=false)(h46:c≠46)(h: ∀j:Fin 16,hd j.1≠c)(h58:c≠58)(a:AG):c∉Ij a:=by
 unfold Ij
 split
 ·split
  ·exact eO hd' h46 _
  ·exact colT_no h h58 _
 ·simp
def LC(c:UInt8)(s:AP):AP×AP×Bool:=if c∈s then(s.takeWhile (fun x=>x != c),(s.dropWhile (fun x=>x != c)).drop 1,true)else(s,[],false)
theorem iB{c:UInt8}{p q:AP}(h:c∉p):LC c (p++c::q)=(p,q,true):=by
 unfold LC;have h1: ∀x∈p,(x != c)=true:=fun x hx=>by simp;rintro rfl;exact h hx
 rw[t6 (by simp),List.takeWhile_append_of_pos h1,List.dropWhile_append_of_pos h1];simp
def ofP(a:AG)(n:Int):Av×Int:=
 if Dm a=true then(if n<0∨(CI a:Int)<n then(⟨zA,0⟩,6)else(⟨⟨a.V,iY (MX a.B.l n.toNat)⟩,n⟩,0))else(⟨zA,0⟩,1)
def iG(s:AP):Av×Int:=
 let c:=LC 47 s
 let a:=J1 c.1
 if a.2=0 then(if c.2.2=true then(let n:=Du c.2.1 (CI a.1);if n.2=0 then ofP a.1 (n.1:Int)else(⟨zA,0⟩,n.2))else ofP a.1 (CI a.1:Int))else(⟨zA,0⟩,a.2)
theorem tU{p:Av}(h:HQ p=true):Dm p.A=true∧(0≤p.Bits∧p.Bits≤(CI p.A:Int))∧MX p.A.B.l p.Bits.toNat=p.A.B.l:=by
 unfold HQ at h;simp only[af,t8]at h;exact⟨h.1,h.2.1,h.2.2⟩
theorem xD{p:Av}(h:HQ p=true):iG (S5 p)=(p,0):=by
 obtain⟨h1,⟨h2,h3⟩,h4⟩:=tU h;have hw:=Qc p.A;unfold S5 iG;rw[t6 h,br,gb,iB (jB (by decide) (by decide) (fun j=>(Q4 j).2.1) (by decide) _)];dsimp only;rw[ZS h1];dsimp only;rw[t6 rfl,t6 rfl,QH (by omega) (by omega)];dsimp only;rw[t6 rfl];have e:((p.Bits.toNat:Nat):Int)=p.Bits:=by omega
 unfold ofP;rw[e,t6 h1,t7 (by omega),h4,sG]
def VT:AP→Option (AP×AP)
 |[]=>none
 |[_]=>none
 |a::b::r=>if a=93∧b=58 then some ([],r)else(VT (b::r)).map fun p=>(a::p.1,p.2)
theorem wW: ∀{s:AP} (r:AP),(93:UInt8)∉s→VT (s++93::58::r)=some (s,r)
 |[],r,_=>by simp[VT]
 |[a],r,h=>by
  have ha:a≠93:=fun e=>h (by simp[e]);show(if a=93∧(93:UInt8)=58 then _ else(VT (93::58::r)).map fun p=>(a::p.1,p.2))=_;rw[t7 (fun e=>ha e.1)];simp[VT]
 |a::b::s,r,h=>by
  have ha:a≠93:=fun e=>h (by simp[e]);have ih:=wW (s:=b::s) r (fun x=>h (a8 _ x));show(if a=93∧b=58 then _ else(VT ((b::s)++93::58::r)).map fun p=>(a::p.1,p.2))=_;rw[t7 (fun e=>ha e.1),ih]
  rfl
def ZE(s:AP):Option (AP×AP):=
 if s.head?=some 91 then(VT (s.drop 1)).bind fun p=>if(58:UInt8)∈p.1 then some p else none
 else if(58:UInt8)∈s then some ((LC 58 s).1,(LC 58 s).2.1)else none
def noEnd:AJ:=⟨zA,0⟩
def fT(s:AP):AJ×Int:=
 match ZE s with
 |none=>(noEnd,5)
 |some (h,p)=>if(J1 h).2=0 then(if(Du p 65535).2=0 then(if(Du p 65535).1=0 then(noEnd,6)else(⟨(J1 h).1,(Du p 65535).1⟩,0))else(noEnd,(Du p 65535).2))else(noEnd,(J1 h).2)
theorem uY{e:AJ}(h:HR e=true):fT (Q3 e)=(e,0):=by
 obtain⟨h1,h2,h3⟩:=Zy h;have hp:Du (Dt e.Port.toNat) 65535=(e.Port.toNat,0):=QH (by omega) (by omega);have e2:((e.Port.toNat:Nat):Int)=e.Port:=by omega
 have hh:ZE (Q3 e)=some (Ij e.A,Dt e.Port.toNat):=by
  unfold Q3;rw[t6 h]
  by_cases h6:e.A.V=6
  ·rw[t6 h6];have ec:Ij e.A=YR e.A.B.l:=by
    unfold Ij;rw[t6 h1,t7 (by rw[h6];decide)]
   show ZE (91::(Ij e.A++[93,58]++Dt e.Port.toNat))=_;unfold ZE;rw[br,show([93,58]:AP)++Dt e.Port.toNat=93::58::Dt e.Port.toNat from rfl,List.head?_cons,t6 rfl,List.drop_one,List.tail_cons,wW _ (jB (by decide) (by decide) (fun j=>(Q4 j).2.2.2.1) (by decide) _),aa,t6 (by rw[ec];exact wZ _)]
  ·rw[t7 h6];have h4:e.A.V=4:=by
    unfold Dm at h1;rw[t8]at h1;rcases h1 with h1|h1
    ·exact absurd h1 h6
    ·exact h1.1
   have ea:Ij e.A=WJ (e.A.B.l.take 4):=by
    unfold Ij;rw[t6 h1,t6 h4]
   have hno:(58:UInt8)∉Ij e.A:=by rw[ea];exact eO (by decide) (by decide) _
   have h91:(91:UInt8)∉Ij e.A:=jB (by decide) (by decide) (fun j=>(Q4 j).2.2.2.2.1) (by decide) _;have e3:Ij e.A++[58]++Dt e.Port.toNat=Ij e.A++58::Dt e.Port.toNat:=by simp
   rw[e3];have key: ∀s:AP,s.head?≠some 91→ZE s=if(58:UInt8)∈s then some ((LC 58 s).1,(LC 58 s).2.1)else none:=by
    intro s hs;unfold ZE;rw[t7 hs]
   rw[key,t6 (by simp),iB hno];cases hq:Ij e.A with
   |nil=>simp
   |cons a r=>
    rw[hq]at h91;simp only[cd,List.head?_cons,ne_eq,ae];rintro rfl;simp at h91
 unfold fT;rw[hh];dsimp only;rw[ZS h1,hp];dsimp only;rw[t6 rfl,t6 rfl,t7 (by omega),e2]
end
section
def Fw(k:AP):Nat:=((dp 1 16).find? fun w=>decide (H8 w=k)).getD 0
def noF:Aq:=⟨0,zK,0,zE,zP⟩
def K1(w:Nat):Prop:=w=1∨w=5∨w=8
instance (w:Nat):Decidable (K1 w):=by unfold K1;infer_instance
def J4(w:Nat):Prop:=w=4∨w=6∨w=7∨w=11
instance (w:Nat):Decidable (J4 w):=by unfold J4;infer_instance
def Og(p:At):Aq×Int:=
 if Fw p.Key=0 then(noF,12)
 else if K1 (Fw p.Key)then(if(Aa4 p.Value).2=0 then(⟨Fw p.Key,(Aa4 p.Value).1,0,zE,zP⟩,0)else(noF,(Aa4 p.Value).2))
 else if Fw p.Key=9 then(if(fT p.Value).2=0 then(⟨9,zK,0,(fT p.Value).1,zP⟩,0)else(noF,(fT p.Value).2))
 else if Fw p.Key=12 then(if(iG p.Value).2=0 then(⟨12,zK,0,zE,(iG p.Value).1⟩,0)else(noF,(iG p.Value).2))
 else if J4 (Fw p.Key)then(if p.Value=[116,114,117,101]then(⟨Fw p.Key,zK,0,zE,zP⟩,0)else(noF,5))
 else if(Du p.Value (Vb (Fw p.Key))).2=0 then(if(Du p.Value (Vb (Fw p.Key))).1<VD (Fw p.Key)then(noF,6)else(⟨Fw p.Key,zK,d7 (Du p.Value (Vb (Fw p.Key))).1,zE,zP⟩,0))else(noF,(Du p.Value (Vb (Fw p.Key))).2)
theorem JH: ∀w:Fin 17,1≤w.1→Fw (H8 w.1)=w.1:=by decide+kernel
theorem rD{f:Aq}(h:oX f):Og (Hg f)=(f,0):=by
 have hw: ∀w:Fin 17,1≤w.1→Fw (H8 (w.1:Int).toNat)=w.1:=fun w h=>JH w h;cases h with
 | @key w K hw1=>
  have hv:sW ⟨w,K,0,zE,zP⟩=Nl K.l:=by unfold sW;rw[t6 hw1]
  unfold Og Hg;rw[hv];dsimp only;rcases hw1 with rfl|rfl|rfl
  ·rw[show Fw (H8 (1:Int).toNat)=1 from hw ⟨1,by decide⟩ (by decide),t7 (by decide),t6 (by decide),Y7];rfl
  ·rw[show Fw (H8 (5:Int).toNat)=5 from hw ⟨5,by decide⟩ (by decide),t7 (by decide),t6 (by decide),Y7];rfl
  ·rw[show Fw (H8 (8:Int).toNat)=8 from hw ⟨8,by decide⟩ (by decide),t7 (by decide),t6 (by decide),Y7];rfl
 | @num w n hw1 h1 h2=>
  have hn:=n.toNat_lt;have key: ∀w:Nat,(w=2∨w=3∨w=10∨w=13∨w=14∨w=15∨w=16)→VD w≤n.toNat→n.toNat≤Vb w→Og ⟨H8 w,Dt n.toNat⟩=(⟨w,zK,n,zE,zP⟩,0):=by
   intro w hw2 l1 l2;have e:Fw (H8 w)=w:=by
    rcases hw2 with rfl|rfl|rfl|rfl|rfl|rfl|rfl<;>exact JH ⟨_,by decide⟩ (by decide)
   unfold Og;dsimp only;rw[e,QH hn l2];dsimp only;rw[t7 (by omega),t7 (by unfold K1;omega),t7 (by omega),t7 (by omega),t7 (by unfold J4;omega),t6 rfl,t7 (by omega)];simp
  rcases hw1 with rfl|rfl|rfl|rfl|rfl|rfl|rfl
  ·exact key 2 (by decide) h1 h2
  ·exact key 3 (by decide) h1 h2
  ·exact key 10 (by decide) h1 h2
  ·exact key 13 (by decide) h1 h2
  ·exact key 14 (by decide) h1 h2
  ·exact key 15 (by decide) h1 h2
  ·exact key 16 (by decide) h1 h2
 | @host e he=>
  show Og ⟨H8 9,Q3 e⟩=_;unfold Og;dsimp only;rw[show Fw (H8 9)=9 from JH ⟨9,by decide⟩ (by decide),uY he,t7 (by decide),t7 (by decide),t6 rfl];rfl
 | @pre p hp=>
  show Og ⟨H8 12,S5 p⟩=_;unfold Og;dsimp only;rw[show Fw (H8 12)=12 from JH ⟨12,by decide⟩ (by decide),xD hp,t7 (by decide),t7 (by decide),t7 (by decide),t6 rfl];rfl
def Kl(p:AE):Ar UInt8 32×Ar UInt8 32×AJ×Int×UInt64×UInt64×List Av:=(p.Key,p.Psk,p.End,p.Keep,p.Sent,p.Got,p.Allowed.l)
def Qy(c:AW):Ar UInt8 32×Int×UInt32×List (Ar UInt8 32×Ar UInt8 32×AJ×Int×UInt64×UInt64×List Av):=(c.Private,c.Port,c.Mark,c.Peers.l.map Kl)
theorem allI{n:Nat}{F:Int→Option (Int⊕(Unit⊕Bool))}{K:Option Bool}(p:Nat→Prop)(hn:n<4611686018427387904)
  (h0: ∀i:Nat,i<n→p i→F (i:Int)=some (.inl (tx tz ((i:Int)+1)))) (h1: ∀i:Nat,i<n→ ¬p i→F (i:Int)=some (.inr (.inr false)))
  (h2:F (n:Int)=some (.inr (.inl ()))):((∀i,i<n→p i)∧(iter F 0).bind (bd (fun _=>K) some)=K)∨((¬ ∀i,i<n→p i)∧(iter F 0).bind (bd (fun _=>K) some)=some false):=by
 classical
 have:=tM (K:=bd (fun _=>K) some) (k:=0) (n:=n) (fun i=>if p i then none else some false) (dz _) hn (fun i _ hi=>by
  by_cases e:p i
  ·rw[t6 e,h0 i hi e]
  ·rw[t7 e,h1 i hi e]) h2
 have this':(iter F 0).bind (bd (fun _=>K) some)=_:=this;rw[this'];cases e:(dp 0 (n-0)).findSome? fun i=>if p i then none else some false with
 |none=>
  left;refine⟨fun i hi=> ?_,rfl⟩;have h:=gn.1 e i (by simp;omega)
  by_cases q:p i
  ·exact q
  ·rw[t7 q]at h;cases h
 |some b=>
  right;obtain⟨i,hi,hb⟩:=gf e;simp only[dx]at hi
  by_cases q:p i
  ·rw[t6 q]at hb;cases hb
  ·rw[t7 q]at hb;cases hb;exact⟨fun h=>q (h i (by omega)),rfl⟩
theorem r11_same(a b:GS Av)(ha:a.l.length<1000000000):WG a b=some (decide (a.l=b.l)):=by
 unfold WG;dsimp only
 by_cases h:a.l.length=b.l.length
 ·rw[t7 (by simp[h])];rcases allI (n:=a.l.length) (F:=fun(s4:Int)=>
   if(decide (s4<(a.l.length:Int)))=true then
   (DN a.l s4).bind fun x8=>(DN b.l s4).bind fun x10=>if(!(Iw DA x8 x10))=true then(some false).map fun r=> .inr (.inr r)else some (.inl (tx tz (s4+1)))
   else some (.inr (.inl ()))) (K:=some true) (fun i=>a.l[i]? =b.l[i]?) (by omega) (fun i hi hp=>by
    have hb:i<b.l.length:=by omega
    rw[ab hi,ab hb,ae]at hp;rw[t6 (by simpa using hi),By,By,ab hi,ab hb,aa,aa,t7 (by rw[xC,ua hp];decide)]) (fun i hi hp=>by
    have hb:i<b.l.length:=by omega
    rw[ab hi,ab hb,ae]at hp;rw[t6 (by simpa using hi),By,By,ab hi,ab hb,aa,aa,t6 (by rw[xC,ub hp];decide)];rfl) (by rw[t7 (by simp)])with ⟨hq,e⟩|⟨hq,e⟩
  ·refine e.trans (ue some (ua (ew fun i=> ?_)).symm)
   by_cases hi:i<a.l.length
   ·exact hq i hi
   ·rw[dk (by omega),dk (by omega)]
  ·exact e.trans (ue some (ub fun h=>hq fun i _=>by rw[h]).symm)
 ·rw[t6 (by simp only[ck,decide_eq_false_iff_not];omega),ub fun e=>h (by rw[e])]
theorem u64_eq(x y:UInt64):decide ((x.toNat:Int)=(y.toNat:Int))=decide (x=y):=by
 by_cases h:x=y
 ·subst h;simp
 ·rw[ub h,ub];intro e;exact h (UInt64.toNat_inj.1 (by omega))
theorem u32_eq(x y:UInt32):decide ((x.toNat:Int)=(y.toNat:Int))=decide (x=y):=by
 by_cases h:x=y
 ·subst h;simp
 ·rw[ub h,ub];intro e;exact h (UInt32.toNat_inj.1 (by omega))
open Classical in
theorem mH(p q:AE)(hp:p.Allowed.l.length<1000000000):Kt p q=some (decide (Kl p=Kl q)):=by
 unfold Kt;dsimp only;rw[cmpK,cmpK,cmpE,u64_eq,u64_eq,r11_same _ _ hp];unfold Kl
 by_cases h1:p.Key=q.Key<;>by_cases h2:p.Psk=q.Psk<;>by_cases h3:p.End=q.End<;>by_cases h4:p.Keep=q.Keep<;>by_cases h5:p.Sent=q.Sent<;>by_cases h6:p.Got=q.Got<;>by_cases h7:p.Allowed.l=q.Allowed.l<;>simp[Cr,h1,h2,h3,h4,h5,h6,h7]
open Classical in
theorem same_conf(a b:AW)(hs:Rf a):Ku a b=some (decide (Qy a=Qy b)):=by
 unfold Ku;dsimp only;rw[cmpK,u32_eq];have hlen:(decide ((a.Peers.l.length:Int)=(b.Peers.l.length:Int)))=decide (a.Peers.l.length=b.Peers.l.length):=by
  by_cases h:a.Peers.l.length=b.Peers.l.length<;>simp[h];omega
 rw[hlen]
 by_cases h1:a.Private=b.Private
 ·by_cases h2:a.Port=b.Port
  ·by_cases h3:a.Mark=b.Mark
   ·by_cases h4:a.Peers.l.length=b.Peers.l.length
    ·simp only[h1,h2,h3,h4,decide_true,cq,FL,aa,ah,ud];rcases allI (n:=a.Peers.l.length) (F:=fun(s18:Int)=>
      if(decide (s18<(a.Peers.l.length:Int)))=true then
      (DN a.Peers.l s18).bind fun x24=>(DN b.Peers.l s18).bind fun x27=>(Kt x24 x27).bind fun x29=>if(!x29)=true then(some false).map fun r=> .inr (.inr r)else some (.inl (tx tz (s18+1)))
      else some (.inr (.inl ()))) (K:=some true) (fun i=>(a.Peers.l.map Kl)[i]? =(b.Peers.l.map Kl)[i]?) (by have:=hs.1;omega) (fun i hi hp=>by
       have hb:i<b.Peers.l.length:=by omega
       have hsm:=hs.2 _ (eu hi);rw[ge,ge,ab hi,ab hb,ak,ak,ae]at hp;rw[t6 (by simpa using hi),By,By,ab hi,ab hb,aa,aa,mH _ _ (by omega),aa,t7 (by rw[ua hp];decide)]) (fun i hi hp=>by
       have hb:i<b.Peers.l.length:=by omega
       have hsm:=hs.2 _ (eu hi);rw[ge,ge,ab hi,ab hb,ak,ak,ae]at hp;rw[t6 (by simpa using hi),By,By,ab hi,ab hb,aa,aa,mH _ _ (by omega),aa,t6 (by rw[ub hp];decide)];rfl) (by rw[t7 (by simp)])with ⟨hq,e⟩|⟨hq,e⟩
     ·refine pc ?_ (e.trans (ue some (ua ?_).symm))
      ·rw[h4]
      ·unfold Qy;rw[h1,h2,h3,ew (l₁:=a.Peers.l.map Kl) (l₂:=b.Peers.l.map Kl) fun i=> ?_]
       by_cases hi:i<a.Peers.l.length
       ·exact hq i hi
       ·rw[dk (by simp;omega),dk (by simp;omega)]
     ·refine pc ?_ (e.trans (ue some (ub fun h=>hq fun i _=> ?_).symm))
      ·rw[h4]
      ·have:a.Peers.l.map Kl=b.Peers.l.map Kl:=ue (fun x=>x.2.2.2) h;rw[this]
    ·simp only[h1,h2,h3,decide_true,cq,FL,aa,ah,ud,ub h4,ju,uc];rw[ub];intro h;have:a.Peers.l.map Kl=b.Peers.l.map Kl:=ue (fun x=>x.2.2.2) h;exact h4 (by simpa using ue jd this)
   ·rw[ub (p:=Qy a=Qy b) fun h=>h3 (ue (fun x=>x.2.2.1) h)];simp[h1,h2,h3,FL]
  ·rw[ub (p:=Qy a=Qy b) fun h=>h2 (ue (fun x=>x.2.1) h)];simp[h1,h2,FL]
 ·rw[ub (p:=Qy a=Qy b) fun h=>h1 (ue (fun x=>x.1) h)];simp[h1,FL]
def AbI(p:AE):List Aq:=(Fg p).drop 1
theorem AaF{a b:AW}(h:Qy a=Qy b):Lh a=Lh b:=by
 have h1:a.Private=b.Private:=ue (fun x=>x.1) h;have h2:a.Port=b.Port:=ue (fun x=>x.2.1) h;have h3:a.Mark=b.Mark:=ue (fun x=>x.2.2.1) h;have h4:a.Peers.l.map Kl=b.Peers.l.map Kl:=ue (fun x=>x.2.2.2) h;have e: ∀l:List AE,l.flatMap Fg=(l.map Kl).flatMap fun x=>Fg ⟨x.1,x.2.1,x.2.2.1,x.2.2.2.1,x.2.2.2.2.1,x.2.2.2.2.2.1, .mk x.2.2.2.2.2.2⟩:=by
  intro l;rw[o9]
  rfl
 unfold Lh E6 Xa;rw[h1,h2,h3,e a.Peers.l,h4,←e b.Peers.l]
end
section
theorem lX(n:Nat)(c:UInt8)(s:AP):NL n (c::s)=NL (10*n+(c.toNat-48)) s:=by unfold NL;rw[nv]
theorem valD_ge(s:AP): ∀n:Nat,n≤NL n s:=by
 induction s with
 |nil=>exact fun n=>bc n
 |cons c s ih=>
  intro n;have h:=ih (10*n+(c.toNat-48));rw[lX];exact dj (by omega) h
theorem eV(M:Nat)(hM:M=18446744073709551615): ∀(s:AP) (n:Nat),n≤M→s.all VG=true→Lib.parseUintM M n s=if M<NL n s then .range else .ok (NL n s)
 |[],n,hn,_=>by
  rw[Lib.parseUintM,show NL n []=n from rfl,t7 (by omega)]
 |c::s,n,hn,h=>by
  simp only[fy,af]at h;have hc:48≤c.toNat∧c.toNat≤57:=by simpa [VG]using h.1
  have hg:=valD_ge s (10*n+(c.toNat-48));rw[Lib.parseUintM,t6 hc,lX]
  by_cases h1:1844674407370955162≤n
  ·rw[t6 h1,t6 (by omega)]
  ·rw[t7 h1]
   by_cases h2:M<n*10+(c.toNat-48)
   ·rw[t6 h2,t6 (by omega)]
   ·rw[t7 h2,show n*10+(c.toNat-48)=10*n+(c.toNat-48) by omega,eV M hM s _ (by omega) h.2]
theorem zC{s:AP}(h0:s≠[])(h:s.all VG=true):GM s=if 18446744073709551615<NL 0 s then(18446744073709551615,true)else(NL 0 s,false):=by
 unfold GM Lib.parseUintB;rw[t7 h0,eV _ (by decide) s 0 (dz _) h];have e:(2^64-1:Nat)=18446744073709551615:=by decide
 rw[e]
 by_cases hv:18446744073709551615<NL 0 s
 ·rw[t6 hv,t6 hv]
 ·rw[t7 hv,t7 hv]
theorem lR{s:AP}{i:Nat}(h:i<s.length):(s.take (i+1)).all VG=((s.take i).all VG&&VG s[i]):=by
 rw[bf h,ka];simp
theorem AaQ(s:AP)(hl:s.length<4611686018427387904): ∃k:Nat,KN s=some (k:Int)∧k≤s.length∧(k<s.length↔s.all VG=false):=by
 unfold KN;obtain⟨r,e,hr⟩: ∃r:Unit⊕Int,iter (fun(s1:Nat)=>if s1<s.length then
   let x3:=E2 s s1
   (FL (decide (x3.1<48)) (some (decide (57<x3.1)))).bind fun x8=>if x8=true then(some ((s1:Nat):Int)).map fun r=> .inr (.inr r)else some (.inl (s1+x3.2))
   else some (.inr (.inl ()))) 0=some r∧((r= .inl ()∧s.all VG=true)∨ ∃k:Nat,r= .inr (k:Int)∧k<s.length∧s.all VG=false):=by
  refine K0 (fun n=>s.length-n) (fun n=>n≤s.length∧(s.take n).all VG=true) _ ?_ ⟨dz _,rfl⟩;rintro n ⟨h1,h2⟩;dsimp only
  by_cases hn:n<s.length
  ·rw[t6 hn];have bad:VG s[n]=false→s.all VG=false:=fun hb=>by
    cases ha:s.all VG with
    |false=>rfl
    |true=>rw[cb.1 ha _ (eu hn)]at hb;cases hb
   rcases Rj s n hn with ⟨hb,e⟩|⟨hb,h128,h3,_⟩
   ·rw[e];dsimp only
    by_cases hd:VG s[n]=true
    ·have:48≤s[n].toNat∧s[n].toNat≤57:=by simpa [VG]using hd
     have e1:decide ((s[n].toNat:Int)<48)=false:=ub (by omega);have e2:decide ((57:Int)<(s[n].toNat:Int))=false:=ub (by omega);rw[e1,e2];simp only[FL,ah,ud,aa];exact .inl ⟨_,rfl,⟨by omega,by rw[lR hn,h2,hd];rfl⟩,by omega⟩
    ·have hd':VG s[n]=false:=by simpa using hd
     right;refine⟨.inr (n:Int),?_, .inr ⟨n,rfl,hn,bad hd'⟩⟩
     by_cases h48:s[n].toNat<48
     ·have e1:decide ((s[n].toNat:Int)<48)=true:=ua (by omega);rw[e1];rfl
     ·have e1:decide ((s[n].toNat:Int)<48)=false:=ub (by omega);have e2:decide ((57:Int)<(s[n].toNat:Int))=true:=ua (by
       have: ¬(48≤s[n].toNat∧s[n].toNat≤57):=by simpa [VG]using hd'
       omega)
      rw[e1,e2];rfl
   ·right;have hd':VG s[n]=false:=by
     have: ¬(48≤s[n].toNat∧s[n].toNat≤57):=by omega
     simpa [VG]using this
    refine⟨.inr (n:Int),?_, .inr ⟨n,rfl,hn,bad hd'⟩⟩;have e1:decide ((E2 s n).1<48)=false:=ub (by omega);have e2:decide ((57:Int)<(E2 s n).1)=true:=ua (by omega);rw[e1,e2];rfl
  ·rw[t7 hn];exact .inr ⟨_,rfl, .inl ⟨rfl,by rw[au (by omega)]at h2;exact h2⟩⟩
 rcases hr with ⟨rfl,ha⟩|⟨k,rfl,hk,ha⟩
 ·exact⟨s.length,(ue (fun x:Option (Unit⊕Int)=>x.bind _) e).trans rfl,bc _,by simp[ha]⟩
 ·exact⟨k,(ue (fun x:Option (Unit⊕Int)=>x.bind _) e).trans rfl,by omega,by simp[ha,hk]⟩
def lI(s:AP)(m:UInt64):UInt64×Int:=(d7 (Du s m.toNat).1,(Du s m.toNat).2)
theorem head_zero{s:AP}(h:1<s.length): ∃c,DN s 0=some c∧s[0]? =some c:=by
 cases s with
 |nil=>simp at h
 |cons c r=>exact⟨c,rfl,rfl⟩
theorem lead_val{γ:Type}{s:AP}{K:Bool→Option γ}:((Cr (decide (1<(s.length:Int))) ((DN s 0).bind fun x8=>let x9:=decide ((x8.toNat:Int)=((48:UInt8).toNat:Int));some x9)).bind K)=K (decide (1<s.length∧s[0]? =some 48)):=by
 by_cases h:1<s.length
 ·obtain⟨c,h1,h2⟩:=head_zero h;rw[show decide ((1:Int)<(s.length:Int))=true from ua (by omega),h1,h2];have:decide ((c.toNat:Int)=((48:UInt8).toNat:Int))=decide (1<s.length∧some c=some (48:UInt8)):=by
   by_cases hc:c=48
   ·subst hc;simp[h]
   ·rw[ub,ub]
    ·rintro⟨_,e⟩;exact hc (be e)
    ·intro e;exact hc (ii.1 (by omega))
  simp only[Cr,aa,uc];rw[this]
 ·rw[show decide ((1:Int)<(s.length:Int))=false from ub (by omega),show decide (1<s.length∧s[0]? =some 48)=false from ub fun e=>h e.1]
  rfl
theorem hZ{s:AP}{m:Nat}(h:s=[]∨s.all VG=false∨(1<s.length∧s[0]? =some 48)):Du s m=(0,5):=t6 h
theorem decR_good{s:AP}{m:Nat}(h: ¬(s=[]∨s.all VG=false∨(1<s.length∧s[0]? =some 48))):Du s m=if m<NL 0 s then(0,6)else(NL 0 s,0):=t7 h
theorem Ut{s:AP}{m:UInt64}{n:Nat}{e:Int}(h:Du s m.toNat=(n,e)):lI s m=(d7 n,e):=by unfold lI;rw[h]
theorem N3(s:AP)(m:UInt64)(hl:s.length<1073741824):G2 s m=some (lI s m):=by
 obtain⟨k,hk,hkl,hka⟩:=AaQ s (by omega);have hm:=m.toNat_lt;unfold G2
 by_cases h0:s=[]
 ·rw[Ut (hZ (.inl h0)),show decide (s=[])=true from ua h0]
  rfl
 ·rw[show decide (s=[])=false from ub h0,hk];simp only[FL,aa,ah,ud]
  by_cases ha:s.all VG=true
  ·rw[show decide ((k:Int)<(s.length:Int))=false from ub (fun hlt=>by have:=hka.1 (by omega);rw[ha]at this;cases this)];simp only[ah,ud];refine(ue (fun x:Option Bool=>x.bind _) (lead_val (K:=some) (s:=s))).trans ?_;rw[aa]
   by_cases hz:1<s.length∧s[0]? =some 48
   ·rw[Ut (hZ (.inr (.inr hz))),t6 (ua hz)];rfl
   ·have hg: ¬(s=[]∨s.all VG=false∨(1<s.length∧s[0]? =some 48)):=fun h=>h.elim h0 fun h=>h.elim (fun h=>by rw[ha]at h;cases h) hz;rw[t7 (by rw[ub hz];decide)];have hp:HY s 10 64=some (d7 (GM s).1,(GM s).2):=by
     unfold HY qI;rw[t6 ⟨rfl,rfl,by unfold Ci;omega⟩]
    rw[hp,aa,zC h0 ha];have hd:=decR_good (m:=m.toNat) hg
    by_cases hv:18446744073709551615<NL 0 s
    ·rw[t6 (by omega)]at hd;rw[Ut hd,t6 hv];rfl
    ·rw[t7 hv];have e:(d7 (NL 0 s)).toNat=NL 0 s:=by rw[jb];omega
     dsimp only;rw[e]
     by_cases hmv:m.toNat<NL 0 s
     ·rw[t6 hmv]at hd;rw[Ut hd,show decide ((m.toNat:Int)<(NL 0 s:Int))=true from ua (by omega)];rfl
     ·rw[t7 hmv]at hd;rw[Ut hd,show decide ((m.toNat:Int)<(NL 0 s:Int))=false from ub (by omega)];rfl
  ·have ha':s.all VG=false:=by simpa using ha
   rw[Ut (hZ (.inr (.inl ha'))),show decide ((k:Int)<(s.length:Int))=true from ua (by have:=hka.2 ha';omega)]
   rfl
theorem aV: ∀k:Fin 256,It (bb k.1)=some (match K2 (bb k.1)with|some v=>(ca v,true)|none=>(65535,false)):=by decide+kernel
theorem qU{c:UInt8}{v:Nat}(h:K2 c=some v):v<16:=by
 unfold K2 at h
 split at h
 ·cases h;omega
 ·split at h
  ·cases h;omega
  ·cases h
theorem Oc(c:UInt8):It c=some (match K2 c with|some v=>(ca v,true)|none=>(65535,false)):=by
 have:=aV ⟨c.toNat,c.toNat_lt⟩;simpa using this
theorem or16: ∀x y:Fin 16,((if((4:UInt64).toNat:Int)<0 then none else some (Da (((ca x.1).toNat:Int)*2^(min ((4:UInt64).toNat:Int).toNat 16)))).map fun z=>Kx ((Da (FF .or .u16 (z.toNat:Int) ((ca y.1).toNat:Int))).toNat:Int))=some (bb (16*x.1+y.1)):=by decide+kernel
theorem hexD_drop{s:AP}{k:Nat}{a b:UInt8}(h:2*k+1<s.length)(ha:s[2*k]? =some a)(hb:s[2*k+1]? =some b):s.drop (2*k)=a::b::s.drop (2*(k+1)):=by
 rw[da (by omega),da (by omega)];rw[ab (by omega),ae]at ha hb;rw[ha,hb]
 rfl
theorem hex_loop(s:AP)(hl:s.length<1073741824)(he:s.length%2=0){F:Int×GS UInt8→Option ((Int×GS UInt8)⊕(GS UInt8⊕(GS UInt8×Int)))}
  (h1: ∀(k:Nat) (g:GS UInt8) (a b:UInt8),2*k+1<s.length→s[2*k]? =some a→s[2*k+1]? =some b→F (((2*k:Nat):Int),g)=(match K2 a,K2 b with|some x,some y=>(SS 1 g [bb (16*x+y)]).map fun g'=> .inl (((2*k+2:Nat):Int),g')|_,_=>some (.inr (.inr (.nil,5)))))
  (h2: ∀g,F ((s.length:Int),g)=some (.inr (.inl g))):
  (iter F (0, .nil)).bind (bd (fun p5=>some (p5,(0:Int))) some)=some (match UH s with|none=>(.nil,5)|some l=>(YF l,0)):=by
 have key: ∀n k (pre:List UInt8),s.length=2*k+2*n→pre.length=k→iter F (((2*k:Nat):Int),YF pre)=some (match UH (s.drop (2*k))with|none=> .inr (.nil,5)|some l=> .inl (YF (pre++l))):=by
  intro n
  induction n with
  |zero=>
   intro k pre hk hp;rw[CQ (b:= .inl (YF pre)) (by rw[show 2*k=s.length by omega];exact h2 _),fi (by omega)];simp[UH]
  |succ n ih=>
   intro k pre hk hp;obtain⟨a,ha⟩: ∃a,s[2*k]? =some a:=⟨_,ab (by omega)⟩;obtain⟨b,hb⟩: ∃b,s[2*k+1]? =some b:=⟨_,ab (by omega)⟩;have hs:=h1 k (YF pre) a b (by omega) ha hb;rw[hexD_drop (by omega) ha hb];cases ea:K2 a with
   |none=>
    rw[ea]at hs;rw[CQ hs];simp[UH,ea]
   |some x=>
    cases eb:K2 b with
    |none=>
     rw[ea,eb]at hs;rw[CQ hs];simp[UH,ea,eb]
    |some y=>
     rw[ea,eb]at hs;dsimp only at hs;rw[JE (by rw[Ty];unfold Ci;omega),Ty,←Tx,ak]at hs;rw[Fd hs,show 2*k+2=2*(k+1) by omega,ih (k+1) _ (by omega) (by simp[hp])];simp only[UH,ea,eb,aa];cases UH (s.drop (2*(k+1)))<;>simp
 have h0:=key (s.length/2) 0 [] (by omega) rfl;refine(ue (fun x:Option (GS UInt8⊕(GS UInt8×Int))=>x.bind (bd (fun p5=>some (p5,(0:Int))) some)) h0).trans ?_;rw[si,dq];cases UH s<;>simp
theorem vB: ∀{s:AP},s.length%2=1→UH s=none
 |[],h=>by simp at h
 |[_],_=>rfl
 |a::b::s,h=>by
  rw[UH,vB (s:=s) (by simp at h;omega)];cases K2 a<;>cases K2 b<;>rfl
def hexP(s:AP):GS UInt8×Int:=match UH s with|none=>(.nil,5)|some l=>(YF l,0)
theorem tm2N(n:Nat):(if(2:Int)=0 then none else some (j6 (n:Int) 2))=some ((n%2:Nat):Int):=by
 rw[t7 (by decide)];rfl
theorem qT(s:AP)(hl:s.length<1073741824):Nk s=some (hexP s):=by
 unfold Nk;refine(ue (fun x:Option Int=>x.bind _) (tm2N s.length)).trans ?_;rw[aa]
 by_cases he:s.length%2=0
 ·rw[t7 (by rw[he];decide)];refine hex_loop s hl he ?_ ?_
  ·intro k g a b hk ha hb;dsimp only;rw[t6 (by rw[t8];omega),By,ha,aa,Oc,aa,show((2*k:Nat):Int)+1=((2*k+1:Nat):Int) by omega,B6 (by omega),By,hb,aa,Oc,aa];cases ea:K2 a with
   |none=>rfl
   |some x=>
    cases eb:K2 b with
    |none=>rfl
    |some y=>
     have hx:=qU ea;have hy:=qU eb;have ho:=or16 ⟨x,hx⟩ ⟨y,hy⟩;simp only[FL,cq,ah,ud,aa];obtain⟨z,hz,hz2⟩:=aj.1 ho;refine(ue (fun q:Option UInt16=>q.bind _) hz).trans ?_;rw[aa,hz2,show((2*k:Nat):Int)+2=((2*k+2:Nat):Int) by omega,B6 (by omega)];cases SS 1 g [bb (16*x+y)]<;>rfl
  ·intro g;dsimp only;rw[t7 (by simp)]
 ·have ho:s.length%2=1:=by omega
  rw[t6 (by rw[ho];decide)];unfold hexP;rw[vB ho]
theorem keys_of(g:GS UInt8):cH g=some (if g.l.length<32 then(zK,3)else if 32<g.l.length then(zK,4)else(ar32 g.l,0)):=by
 unfold cH
 by_cases h1:g.l.length<32
 ·rw[t6 (by rw[t8];omega),t6 h1];rfl
 ·rw[t7 (by rw[t8];omega),t7 h1]
  by_cases h2:32<g.l.length
  ·rw[t6 (by rw[t8];omega),t6 h2];rfl
  ·rw[t7 (by rw[t8];omega),t7 h2];have h3:g.l.length=32:=by omega
   have:mA 32 g=some (ar32 g.l):=by
    unfold mA ar32;rw[dif_pos (by omega),dif_pos h3];congr 2;exact au (by omega)
   rw[this];rfl
theorem kS(s:AP)(hl:s.length<1073741824):Jn s=some (Aa4 s):=by
 unfold Jn Aa4;rw[qT s hl,aa];unfold hexP;cases h:UH s with
 |none=>rfl
 |some l=>
  rw[t7 (by show¬(!decide ((0:Int)=0))=true;decide),keys_of];show(some (if(YF l).l.length<32 then(zK,(3:Int))else if 32<(YF l).l.length then(zK,4)else(ar32 (YF l).l,0))).bind _=_;rw[Ty]
  rfl
end
section
theorem yM: ∀k:Fin 256,Mp (bb k.1)=some (WU (bb k.1)):=by decide+kernel
theorem fU(c:UInt8):Mp c=some (WU c):=by
 have:=yM ⟨c.toNat,c.toNat_lt⟩;simpa using this
theorem or4{x y:Nat}(hx:x<4096)(hy:y<16):FF .or .u16 ((16*x:Nat):Int) (y:Int)=((16*x+y:Nat):Int):=by
 show((cr 16 ((16*x:Nat):Int)|||cr 16 (y:Int)).toNat:Int)=_;rw[qf];have e1:(cr 16 ((16*x:Nat):Int)).toNat=16*x:=by rw[jr];omega
 have e2:(cr 16 (y:Int)).toNat=y:=by rw[jr];omega
 rw[e1,e2,show 16*x=2^4*x from rfl,←ln hy]
theorem grp_step{γ:Type}{K:UInt16→Option γ}(x v:Nat)(hx:x<4096)(hv:v<16):((if((4:UInt64).toNat:Int)<0 then none else some (Da (((ca x).toNat:Int)*2^(min ((4:UInt64).toNat:Int).toNat 16)))).bind fun z=>K (Da (FF .or .u16 (z.toNat:Int) ((ca v).toNat:Int))))=K (ca (16*x+v)):=by
 have e4:(2:Int)^(min ((4:UInt64).toNat:Int).toNat 16)=16:=by decide
 have ex:(ca x).toNat=x:=by rw[ja];omega
 have ev:(ca v).toNat=v:=by rw[ja];omega
 rw[t7 (by decide),aa,e4,ex,ev,show(x:Int)*16=((16*x:Nat):Int) by omega,LQ (by omega),or4 hx hv];congr 1;apply UInt16.toNat_inj.1;rw[LQ (by omega),ja];omega
theorem vA{c:UInt8}{v:Nat}(h:K2 (WU c)=some v):v<16:=qU h
theorem valG_drop{s:AP}{i:Nat}(h:i<s.length)(n:Nat):U3 n (s.drop i)=(K2 (WU s[i])).bind fun v=>U3 (16*n+v) (s.drop (i+1)):=by
 rw[da h,U3]
def stepG(s:AP)(s7:UInt16×Int):Option ((UInt16×Int)⊕(UInt16⊕(UInt16×Int))):=
 if(decide (s7.2<(s.length:Int)))=true then
 (DN s s7.2).bind fun x10=>
 (Mp x10).bind fun x11=>
 (It x11).bind fun x12=>
 if(!x12.2)=true then
 (some ((0:UInt16),5)).map fun r=> .inr (.inr r)
 else
 (if((4:UInt64).toNat:Int)<0 then none else some (Da ((s7.1.toNat:Int)*2^(min ((4:UInt64).toNat:Int).toNat 16)))).bind fun x16=>
 let x17:=Da (FF .or .u16 (x16.toNat:Int) (x12.1.toNat:Int))
 some (.inl (x17,tx tz (s7.2+1)))
 else
 some (.inr (.inl s7.1))
theorem stepG_val{s:AP}{i n:Nat}(h4:s.length≤4)(hi:i<s.length)(hn:n<16^i):stepG s (ca n,(i:Int))=(match K2 (WU s[i])with|some v=>some (.inl (ca (16*n+v),((i+1:Nat):Int)))|none=>some (.inr (.inr (0,5)))):=by
 unfold stepG;dsimp only;rw[t6 (by rw[t8];omega),By,ab hi,aa,fU,aa,Oc,aa];cases ho:K2 (WU s[i])with
 |none=>rfl
 |some v=>
  have hn4:n<4096:=dv hn (dj (qx (by decide) (show i≤3 by omega)) (by decide));have:=grp_step n v hn4 (vA ho) (K:=fun x17=>(some (.inl (x17,tx tz ((i:Int)+1))):Option ((UInt16×Int)⊕(UInt16⊕(UInt16×Int)))));refine this.trans ?_;rw[show(i:Int)+1=((i+1:Nat):Int) by omega,B6 (by omega)]
theorem vF{s:AP}(h4:s.length≤4): ∀k i n,s.length=i+k→n<16^i→iter (stepG s) (ca n,(i:Int))=some (match U3 n (s.drop i)with|some m=> .inl (ca m)|none=> .inr (0,5)):=by
 intro k
 induction k with
 |zero=>
  intro i n hk hn;rw[CQ (b:= .inl (ca n)) (by unfold stepG;dsimp only;rw[t7 (by rw[t8];omega)]),fi (by omega)]
  rfl
 |succ k ih=>
  intro i n hk hn;have hi:i<s.length:=by omega
  have hs:=stepG_val h4 hi hn;rw[valG_drop hi];cases e:K2 (WU s[i])with
  |none=>
   rw[e]at hs;rw[CQ hs];rfl
  |some v=>
   rw[e]at hs;rw[Fd hs,ih (i+1) _ (by omega) (by have:=vA e;rw[i8];omega)]
   rfl
theorem mM(s:AP)(hl:s.length<1073741824):Er s=some (match sO s with|some n=>(ca n,0)|none=>(0,5)):=by
 unfold Er sO
 by_cases h1:s.length<1
 ·rw[show decide ((s.length:Int)<1)=true from ua (by omega),t7 (by omega)];rfl
 ·rw[show decide ((s.length:Int)<1)=false from ub (by omega)]
  by_cases h4:4<s.length
  ·rw[show decide ((4:Int)<(s.length:Int))=true from ua (by omega),t7 (by omega)];rfl
  ·rw[show decide ((4:Int)<(s.length:Int))=false from ub (by omega),t6 (by omega)];have h0:=vF (s:=s) (by omega) s.length 0 0 (by omega) (by decide);refine(ue (fun x:Option (UInt16⊕(UInt16×Int))=>x.bind (bd (fun p8=>some (p8,(0:Int))) some)) h0).trans ?_;rw[dq];cases U3 0 s<;>rfl
def ar4(l:List UInt8):Ar UInt8 4:=if h:l.length=4 then⟨l,h⟩else⟨[0,0,0,0],rfl⟩
theorem Yy(s:AP):(DS s).1.length=4:=by
 unfold DS
 split
 ·split
  ·simp;assumption
  ·rfl
 ·rfl
theorem QX{c:UInt8}: ∀{l:AP} {x:AP},x∈AT c l→x.length≤l.length
 |[],x,h=>by simp only[AT,ct]at h;subst h;simp
 |y::l,x,h=>by
  simp only[AT]at h
  by_cases hy:y=c
  ·rw[t6 hy]at h;rcases bm.1 h with rfl|h
   ·simp
   ·have:=QX h;simp;omega
  ·rw[t7 hy]at h;cases e:AT c l with
   |nil=>exact absurd e (Dd l)
   |cons a t=>
    rw[e]at h;rcases bm.1 h with rfl|h
    ·have:=QX (c:=c) (l:=l) (x:=a) (by rw[e];simp);simp;omega
    ·have:=QX (c:=c) (l:=l) (x:=x) (by rw[e];exact a8 _ h);simp;omega
theorem oG(s:AP):(lI s 255).2=(Du s 255).2:=rfl
theorem ofU8_dec(s:AP)(h:(Du s 255).2=0):Kx ((lI s 255).1.toNat:Int)=bb (Du s 255).1:=by
 have hb:(Du s 255).1≤255:=by
  unfold Du at h ⊢
  split
  ·simp
  ·split
   ·simp
   ·simp;omega
 unfold lI;show Kx ((d7 (Du s 255).1).toNat:Int)=_;rw[jb,show(Du s 255).1%2^64=(Du s 255).1 by omega];apply ii.1;rw[show Kx (((Du s 255).1:Nat):Int)=bb (((Du s 255).1:Int)%256).toNat from rfl];congr 2;omega
theorem XE: ∀(l:List AP) (x:AP),O4 l=0→O4 (l++[x])=(Du x 255).2
 |[],x,_=>by
  show(if(Du x 255).2=0 then O4 []else(Du x 255).2)=_
  split
  ·rename_i h;rw[h];rfl
  ·rfl
 |y::l,x,h=>by
  rw[cd,O4];rw[O4]at h
  split at h
  ·rename_i hy;rw[t6 hy,XE l x h]
  ·rename_i hy;exact absurd h hy
theorem xN: ∀(l:List AP) (r:List AP),O4 l≠0→O4 (l++r)=O4 l
 |[],r,h=>absurd rfl h
 |y::l,r,h=>by
  rw[cd,O4,O4];rw[O4]at h
  split
  ·rename_i hy;rw[t6 hy]at h;exact xN l r h
  ·rfl
theorem quad_loop(P:List AP)(hP:P.length=4){F:Int×Ar UInt8 4→Option ((Int×Ar UInt8 4)⊕(Ar UInt8 4⊕(Ar UInt8 4×Int)))}
  (h1: ∀(i:Nat) (A:Ar UInt8 4) (x:AP),i<4→P[i]? =some x→F ((i:Int),A)=if(Du x 255).2=0 then some (.inl (((i+1:Nat):Int),A.set i (bb (Du x 255).1)))else some (.inr (.inr (⟨[0,0,0,0],rfl⟩,(Du x 255).2))))
  (h2: ∀A,F (((4:Nat):Int),A)=some (.inr (.inl A))):
  (iter F (0,(aw 4 bi).z)).bind (bd (fun p=>some (p,(0:Int))) some)=some (if O4 P=0 then(ar4 (P.map fun x=>bb (Du x 255).1),0)else(⟨[0,0,0,0],rfl⟩,O4 P)):=by
 have key: ∀n i (A:Ar UInt8 4),i+n=4→O4 (P.take i)=0→A.l.take i=(P.take i).map (fun x=>bb (Du x 255).1)→iter F ((i:Int),A)=some (if O4 P=0 then .inl (ar4 (P.map fun x=>bb (Du x 255).1))else .inr (⟨[0,0,0,0],rfl⟩,O4 P)):=by
  intro n
  induction n with
  |zero=>
   intro i A hi hb hA;obtain rfl:i=4:=by omega
   rw[CQ (h2 A)];have e1:P.take 4=P:=au (by omega);have e2:A.l.take 4=A.l:=au (by rw[A.len];omega);rw[e1]at hb hA;rw[e2]at hA;rw[t6 hb];congr 1;unfold ar4;rw[dif_pos (by simp[hP])];obtain⟨l,hl⟩:=A;simp only at hA;subst hA
   rfl
  |succ n ih=>
   intro i A hi hb hA;have hlt:i<P.length:=by omega
   have hx:=h1 i A P[i] (by omega) (ab hlt);have hP2:P=P.take i++[P[i]]++P.drop (i+1):=by
    rw[br,gb,←da hlt,c9]
   by_cases hd:(Du P[i] 255).2=0
   ·rw[t6 hd]at hx;rw[Fd hx];refine ih (i+1) _ (by omega) ?_ ?_
    ·rw[bf hlt,XE _ _ hb,hd]
    ·rw[bf hlt,df,←hA];show(A.l.set i _).take (i+1)=_;rw[bY (by rw[A.len];omega) rfl]
     rfl
   ·rw[t7 hd]at hx;rw[CQ hx];have hq:O4 P=(Du P[i] 255).2:=by
     conv=>lhs;rw[hP2]
     rw[xN _ _ (by rw[XE _ _ hb];exact hd),XE _ _ hb]
    rw[hq,t7 hd]
 have h0:=key 4 0 (aw 4 bi).z rfl rfl rfl;refine(ue (fun x:Option (Ar UInt8 4⊕(Ar UInt8 4×Int))=>x.bind _) h0).trans ?_
 split<;>rfl
def AbR(s:AP):Ar UInt8 4×Int:=(ar4 (DS s).1,(DS s).2)
theorem eN(s:AP)(hl:s.length<1073741824):Lz s=some (AbR s):=by
 unfold Lz AbR DS;rw[parts_val s 46 hl,aa]
 by_cases h4:(AT 46 s).length=4
 ·rw[t6 h4];refine pc (t7 (by simp[h4])) ?_;refine(quad_loop (AT 46 s) h4 ?_ ?_).trans ?_
  ·intro i A x hi hx;have hxl:x.length<1073741824:=by
    have:=QX (d8 hx);omega
   refine pc (t6 (by simp[h4];omega)) ?_;dsimp only;rw[By,C0,hx,aa,N3 x 255 hxl,aa]
   by_cases hd:(Du x 255).2=0
   ·rw[t7 (by rw[oG,hd];decide),t6 hd,E7 hi,aa,t6 hi,aa,ofU8_dec x hd,show(i:Int)+1=((i+1:Nat):Int) by omega,B6 (by omega)]
   ·rw[t6 (by rw[oG];simp[hd]),t7 hd]
    rfl
  ·intro A;exact t7 (by simp[h4])
  ·by_cases hb:O4 (AT 46 s)=0
   ·rw[t6 hb,t6 hb]
   ·rw[t7 hb,t7 hb];rfl
 ·rw[t7 h4];refine pc (t6 (by simp only[ck,decide_eq_false_iff_not];intro e;exact h4 (Int.ofNat.inj e))) rfl
end
section
def mB(gp:Option Nat)(l:List Nat)(p:AP):Option (List Nat×Option Nat):=
 match sO p with
 |some x=>if l.length=8 then none else some (l++[x],gp)
 |none=>if(DS p).2=0 then(if 7≤l.length then none else some (l++[256*((DS p).1.getD 0 0).toNat+((DS p).1.getD 1 0).toNat,256*((DS p).1.getD 2 0).toNat+((DS p).1.getD 3 0).toNat],gp))else none
def sP:Option Nat→List Nat→List AP→Option (List Nat×Option Nat)
 |_,_,[]=>none
 |gp,l,[p]=>mB gp l p
 |gp,l,p::q::r=>match sO p with
  |none=>none
  |some x=>if l.length=8 then none else
   if q=[]∧r≠[]then(if gp.isSome=true then none else if r=[[]]then some (l++[x],some (l.length+1))else sP (some (l.length+1)) (l++[x]) r)
   else sP gp (l++[x]) (q::r)
theorem rdG_nil:sO []=none:=rfl
theorem Vo{gp:Option Nat}{l:List Nat}(hl:l.length≤8)(p:AP):mB gp l p=(ET true [p]).bind fun m=>if l.length+m.length≤8 then some (l++m,gp)else none:=by
 unfold mB ET;cases sO p with
 |some x=>
  simp only[ET,ak,aa,ba,bu]
  by_cases h:l.length=8
  ·rw[t6 h,t7 (by omega)]
  ·rw[t7 h,t6 (by omega)]
 |none=>
  by_cases hq:(DS p).2=0
  ·simp only[hq,true_and,uc,aa,ba,bu]
   by_cases h:7≤l.length
   ·rw[t6 h,t7 (by omega)]
   ·rw[t7 h,t6 (by omega)]
  ·simp[hq]
theorem L7(last:Bool)(p q:AP)(r:List AP):ET last (p::q::r)=(sO p).bind fun n=>(ET last (q::r)).map fun l=>n::l:=by
 rw[ET];cases sO p with
 |none=>simp
 |some n=>rfl
theorem qE(g:Nat): ∀(P:List AP) (l:List Nat),P≠[]→l.length≤8→sP (some g) l P=(ET true P).bind fun m=>if l.length+m.length≤8 then some (l++m,some g)else none
 |[],l,h,_=>absurd rfl h
 |[p],l,_,hl=>by rw[sP,Vo hl]
 |p::q::r,l,_,hl=>by
  rw[sP,L7];cases sO p with
  |none=>rfl
  |some x=>
   dsimp only;rw[aa]
   by_cases h8:l.length=8
   ·rw[t6 h8];cases ET true (q::r)with
    |none=>rfl
    |some m=>
     simp only[ak,aa,ba];rw[t7 (by omega)]
   ·rw[t7 h8]
    by_cases hq:q=[]∧r≠[]
    ·rw[t6 hq,t6 (by rfl)];obtain⟨rfl,hr⟩:=hq;obtain⟨a,t,rfl⟩:=fb hr;rw[L7,rdG_nil];rfl
    ·rw[t7 hq,qE g (q::r) _ (by simp) (by simp;omega)];cases ET true (q::r)with
     |none=>rfl
     |some m=>
      simp only[ak,aa,ba,an,bu]
      by_cases h:l.length+(0+1)+m.length≤8
      ·rw[t6 h,t6 (by omega)];simp
      ·rw[t7 h,t7 (by omega)]
def iV(l m:List Nat)(b:AP):Option (List Nat×Option Nat):=
 if l.length+m.length≤8 then(if b=[]then some (l++m,some (l.length+m.length))else(ET true (AT 58 b)).bind fun m'=>if l.length+m.length+m'.length≤8 then some (l++m++m',some (l.length+m.length))else none)else none
theorem gapS_app{p:AP}(hp:(58:UInt8)∉p): ∀t:AP,Il (p++58::t)=(Il (58::t)).map fun q=>(p++q.1,q.2):=by
 induction p with
 |nil=>
  intro t;rw[dt];cases Il (58::t)<;>rfl
 |cons a p ih=>
  intro t;have ha:a≠58:=fun e=>hp (by simp[e]);have hp':(58:UInt8)∉p:=fun h=>hp (a8 _ h);have ih':=ih hp' t;obtain⟨b,s,e⟩: ∃b s,p++58::t=b::s:=by
   cases p with
   |nil=>exact⟨_,_,rfl⟩
   |cons b s=>exact⟨_,_,rfl⟩
  rw[cd,e,Il,t7 (fun h=>ha h.1),←e,ih'];cases Il (58::t)<;>rfl
theorem gapS_58(t:AP):Il (58::58::t)=some ([],t):=by rw[Il,t6 ⟨rfl,rfl⟩]
theorem gapS_one{c:UInt8}(hc:c≠58)(t:AP):Il (58::c::t)=(Il (c::t)).map fun q=>(58::q.1,q.2):=by rw[Il,t7 (fun h=>hc h.2)]
theorem gapS_none{s:AP}(h:(58:UInt8)∉s):Il s=none:=(Uq h).1
theorem OT{c:UInt8}{x:UInt8}{t:AP}(h:x≠c): ∃a r,AT c (x::t)=(x::a)::r:=by
 rw[AT,t7 h];cases e:AT c t with
 |nil=>exact absurd e (Dd t)
 |cons a r=>exact⟨a,r,rfl⟩
theorem rdC_none: ∀(n:Nat) (s:AP) (l:List Nat),s.length≤n→l.length≤8→sP none l (AT 58 s)=(match Il s with
  |none=>(ET true (AT 58 s)).bind fun m=>if l.length+m.length≤8 then some (l++m,none)else none
  |some (a,b)=>(ET false (AT 58 a)).bind fun m=>iV l m b):=by
 intro n
 induction n with
 |zero=>
  intro s l hs hl;obtain rfl:s=[]:=im.1 (by omega);show sP none l [[]]=(ET true [[]]).bind _;rw[sP,Vo hl]
 |succ n ih=>
  intro s l hs hl;rcases Pn s 58 with ⟨hn,_⟩|⟨p,q,rfl,hn,_⟩
  ·have h58:(58:UInt8)∉s:=fun h=>hn 58 h rfl;rw[Gn hn,gapS_none h58,sP,Vo hl]
  ·have hp:(58:UInt8)∉p:=fun h=>hn 58 h rfl;have hq:q.length≤n:=by simp at hs;omega
   rw[Fi hn,gapS_app hp]
   match q,hq with
   |[],_=>
    have e:AT 58 ([]:AP)=[[]]:=rfl;have eg:Il [58]=none:=rfl;rw[e,eg,L7,sP];have e2:ET true [[]]=none:=rfl;have e3: ∀l,sP none l [[]]=none:=fun l=>rfl;rw[e2];cases sO p with
    |none=>rfl
    |some x=>
     dsimp only;rw[t7 (by simp: ¬(([]:AP)=[]∧([]:List AP)≠[])),e3]
     split<;>rfl
   |c::t,hq=>
    by_cases hc:c=58
    ·subst hc;have e:AT 58 (58::t)=[]::AT 58 t:=by rw[AT,t6 rfl]
     rw[e,gapS_58,sP];simp only[ak,ei,Gn hn];cases h:sO p with
     |none=>simp[ET,h]
     |some x=>
      have e2:ET false [p]=some [x]:=by simp[ET,h]
      rw[e2];dsimp only;rw[aa];unfold iV;simp only[ba,bu]
      by_cases h8:l.length=8
      ·rw[t6 h8,t7 (by omega)]
      ·rw[t7 h8,t6 ⟨trivial,Dd t⟩,t7 (by simp),t6 (show l.length+(0+1)≤8 by omega)];have et:(AT 58 t=[[]])↔t=[]:=by
        constructor
        ·intro h;cases t with
         |nil=>rfl
         |cons y t=>
          by_cases hy:y=58
          ·rw[AT,t6 hy]at h;have:=(ia h).2;exact absurd this (Dd t)
          ·obtain⟨a,r,e⟩:=OT (t:=t) hy;rw[e]at h;have:=(ia h).1;cases this
        ·rintro rfl;rfl
       by_cases h0:t=[]
       ·rw[t6 (et.2 h0),t6 h0]
       ·rw[t7 (fun h=>h0 (et.1 h)),t7 h0,qE _ _ _ (Dd t) (by simp;omega)];simp
    ·have hcp:AT 58 (c::t)≠[]:=Dd _;obtain⟨a,r,e⟩:=OT (t:=t) hc;have ih':=ih (c::t) (l:=l++[(sO p).getD 0]) hq;rw[gapS_one hc];rw[e]at ih' ⊢;rw[sP,L7];cases h:sO p with
     |none=>
      cases Il (c::t)with
      |none=>rfl
      |some q=>
       obtain⟨a',b'⟩:=q;simp only[ak];rw[Fi hn];obtain⟨u,v,e3⟩:=fb (Dd (c:=58) a');rw[e3,L7,h];rfl
     |some x=>
      rw[h]at ih';simp only[io]at ih';dsimp only
      by_cases h8:l.length=8
      ·rw[t6 h8];cases Il (c::t)with
       |none=>
        simp only[dg,aa];cases ET true ((c::a)::r)with
        |none=>rfl
        |some m=>simp only[ak,aa,ba];rw[t7 (by omega)]
       |some q=>
        obtain⟨a',b'⟩:=q;simp only[ak];rw[Fi hn];obtain⟨u,v,e3⟩:=fb (Dd (c:=58) a');rw[e3,L7,h,aa];cases ET false (u::v)with
        |none=>rfl
        |some m=>
         simp only[ak,aa];unfold iV;rw[t7 (by simp;omega)]
      ·rw[t7 h8,t7 (by simp),ih' (by simp;omega)];cases Il (c::t)with
       |none=>
        simp only[dg,aa];cases ET true ((c::a)::r)with
        |none=>rfl
        |some m=>
         simp only[ak,aa,ba,an,bu,br,gb]
         by_cases hh:l.length+(0+1)+m.length≤8
         ·rw[t6 hh,t6 (by omega)]
         ·rw[t7 hh,t7 (by omega)]
       |some q=>
        obtain⟨a',b'⟩:=q;simp only[ak];rw[Fi hn];obtain⟨u,v,e3⟩:=fb (Dd (c:=58) a');rw[e3,L7,h,aa];cases ET false (u::v)with
        |none=>rfl
        |some m=>
         simp only[ak,aa];unfold iV;simp only[an,ba,bu,br,gb];rw[show l.length+(0+1)+m.length=l.length+(m.length+1) by omega]
def gapI:Option Nat→Int
 |none=> -1
 |some g=>(g:Int)
def bT(r:AD)(l:List Nat)(gp:Option Nat):Prop:=
 r.n_=(l.length:Int)∧l.length≤8∧r.g_.l.take l.length=l.map ca∧r.gap_=gapI gp
def putR(r:AD)(v:UInt16):Option (Bool×AD):=
 if(decide (r.n_=8))=true then
 some (false,r)
 else
 (Dl 8 r.n_).bind fun x93=>
 (if x93<8 then some ({r with g_:=r.g_.set x93 v})else none).bind fun x94=>
 some (true,{x94 with n_:=tx tz (x94.n_+1)})
theorem Uk{r:AD}{l:List Nat}{gp:Option Nat}{v:UInt16}(h:bT r l gp)(h8:l.length=8):putR r v=some (false,r):=by
 unfold putR;rw[t6 (by rw[t8,h.1,h8];rfl)]
theorem cC{r:AD}{l:List Nat}{gp:Option Nat}(h:bT r l gp)(h8: ¬l.length=8)(x:Nat): ∃r',putR r (ca x)=some (true,r')∧bT r' (l++[x]) gp:=by
 obtain⟨h1,h2,h3,h4⟩:=h;unfold putR;rw[t7 (by rw[t8,h1];omega),h1,E7 (by omega),aa,t6 (by omega),aa];refine⟨_,rfl,?_,?_,?_,h4⟩
 ·show tx tz ((l.length:Int)+1)=_;rw[show(l.length:Int)+1=((l.length+1:Nat):Int) by omega,B6 (by omega),an];rfl
 ·simp;omega
 ·show(r.g_.l.set l.length _).take (l++[x]).length=_;rw[an,show [x].length=1 from rfl,bY (by rw[r.g_.len];omega) rfl,h3,df];rfl
theorem or8h{x y:Nat}(hx:x<256)(hy:y<256):FF .or .u16 ((256*x:Nat):Int) (y:Int)=((256*x+y:Nat):Int):=by
 show((cr 16 ((256*x:Nat):Int)|||cr 16 (y:Int)).toNat:Int)=_;rw[qf];have e1:(cr 16 ((256*x:Nat):Int)).toNat=256*x:=by rw[jr];omega
 have e2:(cr 16 (y:Int)).toNat=y:=by rw[jr];omega
 rw[e1,e2,show 256*x=2^8*x from rfl,←ln hy]
theorem mV{γ:Type}{K:UInt16→Option γ}(x:UInt8){M:UInt16→Option UInt16}(y:UInt8)(hM: ∀z,M z=some (Da (FF .or .u16 (z.toNat:Int) ((Da (y.toNat:Int)).toNat:Int)))):((if((8:UInt64).toNat:Int)<0 then none else some (Da (((Da (x.toNat:Int)).toNat:Int)*2^(min ((8:UInt64).toNat:Int).toNat 16)))).bind fun z=>(M z).bind K)=K (ca (256*x.toNat+y.toNat)):=by
 have hx:=x.toNat_lt;have hy:=y.toNat_lt;have e8:(2:Int)^(min ((8:UInt64).toNat:Int).toNat 16)=256:=by decide
 rw[t7 (by decide),aa,hM,aa,e8,LQ (by omega),LQ (by omega),show(x.toNat:Int)*256=((256*x.toNat:Nat):Int) by omega,LQ (by omega),or8h (by omega) (by omega)];congr 1;apply UInt16.toNat_inj.1;rw[LQ (by omega),ja];omega
def tailC(r:AD)(a:AP):Option (Bool×AD):=
 (Er a).bind fun x15=>
 if(decide (x15.2=0))=true then
 (putR r x15.1).bind (fun(p19:(Bool×AD))=>some (p19.1,p19.2))
 else
 (Lz a).bind fun x28=>
 if(decide (x28.2=0))=true then
 (Dl 4 0).bind fun x34=>
 (x28.1.l[x34]?).bind fun x35=>
 (if((8:UInt64).toNat:Int)<0 then none else some (Da (((Da (x35.toNat:Int)).toNat:Int)*2^(min ((8:UInt64).toNat:Int).toNat 16)))).bind fun x37=>
 (Dl 4 1).bind fun x38=>
 (x28.1.l[x38]?).bind fun x39=>
 let x41:=Da (FF .or .u16 (x37.toNat:Int) ((Da (x39.toNat:Int)).toNat:Int))
 (putR r x41).bind (fun(p42:(Bool×AD))=>
 if p42.1=true then
 (Dl 4 2).bind fun x51=>
 (x28.1.l[x51]?).bind fun x52=>
 (if((8:UInt64).toNat:Int)<0 then none else some (Da (((Da (x52.toNat:Int)).toNat:Int)*2^(min ((8:UInt64).toNat:Int).toNat 16)))).bind fun x54=>
 (Dl 4 3).bind fun x55=>
 (x28.1.l[x55]?).bind fun x56=>
 let x58:=Da (FF .or .u16 (x54.toNat:Int) ((Da (x56.toNat:Int)).toNat:Int))
 (putR p42.2 x58).bind (fun(p59:(Bool×AD))=>some (p59.1,p59.2))
 else
 some (false,p42.2))
 else
 some (false,r)
theorem cK(s:AP)(i:Nat)(hi:i<4):(ar4 (DS s).1).l[i]? =some ((DS s).1.getD i 0):=by
 have h:=Yy s;have e:(ar4 (DS s).1).l=(DS s).1:=by unfold ar4;rw[dif_pos h]
 rw[e,ab (by omega),ma,ab (by omega)];rfl
theorem mC{r:AD}{l:List Nat}{gp:Option Nat}(h:bT r l gp)(p:AP)(hl:p.length<1073741824): ∃b r',tailC r p=some (b,r')∧(b=true→ ∃l' gp',mB gp l p=some (l',gp')∧bT r' l' gp')∧(b=false→mB gp l p=none):=by
 unfold tailC mB;rw[mM p hl,aa];cases hg:sO p with
 |some x=>
  dsimp only;rw[t6 (by simp)]
  by_cases h8:l.length=8
  ·rw[Uk h h8,t6 h8];exact⟨false,r,rfl,fun e=>(by cases e),fun _=>rfl⟩
  ·obtain⟨r',e,hr⟩:=cC h h8 x;rw[e,t7 h8];exact⟨true,r',rfl,fun _=>⟨_,_,rfl,hr⟩,fun e=>(by cases e)⟩
 |none=>
  dsimp only;rw[t7 (by decide),eN p hl,aa];unfold AbR;dsimp only
  by_cases hq:(DS p).2=0
  ·rw[t6 (ua hq),t6 hq];have i0:Dl 4 0=some 0:=rfl;have i1:Dl 4 1=some 1:=rfl;have i2:Dl 4 2=some 2:=rfl;have i3:Dl 4 3=some 3:=rfl;rw[i0,aa,cK p 0 (by omega),aa];simp only[i1,i2,i3,aa,cK p 1 (by omega),cK p 2 (by omega),cK p 3 (by omega)];have s1:=mV (K:=fun x41=>(putR r x41).bind (fun(p42:(Bool×AD))=>if p42.1=true then(if((8:UInt64).toNat:Int)<0 then none else some (Da (((Da (((DS p).1.getD 2 0).toNat:Int)).toNat:Int)*2^(min ((8:UInt64).toNat:Int).toNat 16)))).bind fun x54=>(putR p42.2 (Da (FF .or .u16 (x54.toNat:Int) ((Da (((DS p).1.getD 3 0).toNat:Int)).toNat:Int)))).bind (fun(p59:(Bool×AD))=>some (p59.1,p59.2))else some (false,p42.2))) ((DS p).1.getD 0 0) ((DS p).1.getD 1 0) (fun z=>rfl);have s2: ∀r2:AD,_:=fun r2=>mV (K:=fun x=>(putR r2 x).bind (fun(p59:(Bool×AD))=>some (p59.1,p59.2))) ((DS p).1.getD 2 0) ((DS p).1.getD 3 0) (fun z=>rfl)
   by_cases h8:l.length=8
   ·refine⟨false,r,s1.trans ?_,fun e=>(by cases e),fun _=>t6 (by omega)⟩;rw[Uk h h8];rfl
   ·obtain⟨r1,e1,hr1⟩:=cC h h8 (256*((DS p).1.getD 0 0).toNat+((DS p).1.getD 1 0).toNat)
    by_cases h7:l.length=7
    ·have hp2: ∀v,putR r1 v=some (false,r1):=fun v=>Uk hr1 (by simp;omega);refine⟨false,r1,s1.trans ?_,fun e=>(by cases e),fun _=>t6 (by omega)⟩;rw[e1];refine(s2 r1).trans ?_;rw[hp2];rfl
    ·obtain⟨r2,e2,hr2⟩:=cC hr1 (by simp;have:=h.2.1;omega) (256*((DS p).1.getD 2 0).toNat+((DS p).1.getD 3 0).toNat);refine⟨true,r2,s1.trans ?_,fun _=>⟨_,_,t7 (by have:=h.2.1;omega),by rw[br]at hr2;exact hr2⟩,fun e=>(by cases e)⟩;rw[e1];refine(s2 r1).trans ?_;rw[e2];rfl
  ·rw[t7 (by rw[t8];exact hq),t7 hq];exact⟨false,r,rfl,fun e=>(by cases e),fun _=>rfl⟩
theorem eQ(s p:AP):CY s p=some (decide (s.take p.length=p)):=by
 unfold CY Cj
 by_cases h:p.length≤s.length
 ·rw[show decide ((p.length:Int)≤(s.length:Int))=true from ua (by omega),TZ h]
  rfl
 ·rw[show decide ((p.length:Int)≤(s.length:Int))=false from ub (by omega),ub (p:=s.take p.length=p) fun e=>by
   have:=ue jd e;rw[aq]at this;omega]
  rfl
theorem yZ(s:AP):CY s [58]=some (decide (s.head?=some 58)):=by
 rw[eQ];cases s with
 |nil=>rfl
 |cons c s=>
  show some (decide ([c]=[58]))=_
  by_cases h:c=58
  ·subst h;rfl
  ·rw[ub (p:=[c]=[58]) fun e=>h (ia e).1,ub (p:=(c::s).head?=some 58) fun e=>h (be e)]
def Zs(s7:AP×AD):Option ((AP×AD)⊕(Empty⊕(Bool×AD))):=
 (Fc s7.1 (58:UInt8)).bind fun x9=>
 if(!x9.2.2)=true then
 (tailC s7.2 x9.1).bind (fun(p14:(Bool×AD))=>
 (some (p14.1,p14.2)).map fun r=> .inr (.inr r))
 else
 (Er x9.1).bind fun x85=>
 if(!decide (x85.2=0))=true then
 (some (false,s7.2)).map fun r=> .inr (.inr r)
 else
 (putR s7.2 x85.1).bind (fun(p89:(Bool×AD))=>
 if(!p89.1)=true then
 (some (false,p89.2)).map fun r=> .inr (.inr r)
 else
 (CY x9.2.1 [58]).bind fun x99=>
 if(!x99)=true then
 some (.inl (x9.2.1,p89.2))
 else
 if(decide (0≤p89.2.gap_))=true then
 (some (false,p89.2)).map fun r=> .inr (.inr r)
 else
 (IW x9.2.1 (some 1) none).bind fun x105=>
 if(decide (x105=[]))=true then
 (some (true,{p89.2 with gap_:=p89.2.n_})).map fun r=> .inr (.inr r)
 else
 some (.inl (x105,{p89.2 with gap_:=p89.2.n_})))
theorem UT(t:AP):(AT 58 t=[[]])↔t=[]:=by
 constructor
 ·intro h;cases t with
  |nil=>rfl
  |cons y t=>
   by_cases hy:y=58
   ·rw[AT,t6 hy]at h;exact absurd (ia h).2 (Dd t)
   ·obtain⟨a,r,e⟩:=OT (t:=t) hy;rw[e]at h;have:=(ia h).1;cases this
 ·rintro rfl;rfl
theorem iD: ∀(n:Nat) (s:AP) (r:AD) (l:List Nat) (gp:Option Nat),s.length≤n→n<1073741824→bT r l gp→
  ∃b r',iter Zs (s,r)=some (.inr (b,r'))∧(b=true→ ∃l' gp',sP gp l (AT 58 s)=some (l',gp')∧bT r' l' gp')∧(b=false→sP gp l (AT 58 s)=none):=by
 intro n
 induction n with
 |zero=>
  intro s r l gp hs hn h;obtain rfl:s=[]:=im.1 (by omega);obtain⟨b,r',e,h1,h2⟩:=mC h [] (by decide);refine⟨b,r',CQ ?_,h1,h2⟩;unfold Zs;have hc:Fc ([]:AP) 58=some ([],[],false):=by
   rcases Xv [] 58 (by decide)with ⟨_,e⟩|⟨p,q,e,_⟩
   ·exact e
   ·simp at e
  rw[hc,aa];dsimp only;rw[t6 (by decide),e];rfl
 |succ n ih=>
  intro s r l gp hs hn h;rcases Xv s 58 (by omega)with ⟨hfree,hc⟩|⟨p,q,rfl,hfree,hc⟩
  ·obtain⟨b,r',e,h1,h2⟩:=mC h s (by omega);rw[Gn hfree];refine⟨b,r',CQ ?_,h1,h2⟩;unfold Zs;dsimp only;rw[hc,aa];dsimp only;rw[t6 (by decide),e];rfl
  ·have hpq:p.length+q.length+1≤n+1:=by simp at hs;omega
   rw[Fi hfree];have h0:Zs (p++58::q,r)=(Er p).bind fun x85=>
     if(!decide (x85.2=0))=true then
     (some (false,r)).map fun r=> .inr (.inr r)
     else
     (putR r x85.1).bind (fun(p89:(Bool×AD))=>
     if(!p89.1)=true then
     (some (false,p89.2)).map fun r=> .inr (.inr r)
     else
     (CY q [58]).bind fun x99=>
     if(!x99)=true then
     some (.inl (q,p89.2))
     else
     if(decide (0≤p89.2.gap_))=true then
     (some (false,p89.2)).map fun r=> .inr (.inr r)
     else
     (IW q (some 1) none).bind fun x105=>
     if(decide (x105=[]))=true then
     (some (true,{p89.2 with gap_:=p89.2.n_})).map fun r=> .inr (.inr r)
     else
     some (.inl (x105,{p89.2 with gap_:=p89.2.n_}))):=by
    unfold Zs;dsimp only;rw[hc,aa]
    rfl
   rw[mM p (by omega),aa]at h0;have hsplit: ∃u v,AT 58 q=u::v:=fb (Dd q);obtain⟨u,v,euv⟩:=hsplit;rw[euv,sP];cases hg:sO p with
   |none=>
    rw[hg]at h0;exact⟨false,r,CQ h0,fun e=>(by cases e),fun _=>rfl⟩
   |some x=>
    rw[hg]at h0;dsimp only at h0 ⊢;rw[t7 (by simp)]at h0
    by_cases h8:l.length=8
    ·rw[Uk h h8]at h0;rw[t6 h8];exact⟨false,r,CQ h0,fun e=>(by cases e),fun _=>rfl⟩
    ·obtain⟨r1,e1,hr1⟩:=cC h h8 x;rw[e1,aa,yZ]at h0;rw[t7 h8];simp only[cq,ah,ud,aa]at h0
     by_cases hq:q.head?=some 58
     ·obtain⟨t,rfl⟩: ∃t,q=58::t:=by
       cases q with
       |nil=>cases hq
       |cons c t=>exact⟨t,by rw[be hq]⟩
      have ht:t.length≤n:=by simp at hpq;omega
      rw[AT,t6 rfl]at euv;obtain⟨rfl,rfl⟩:=ia euv;rw[ua hq]at h0;simp only[cq,ah,ud]at h0;rw[t6 ⟨rfl,Dd t⟩];cases gp with
      |some g=>
       have hgap:r1.gap_=(g:Int):=hr1.2.2.2;rw[t6 (by rw[hgap,t8];omega)]at h0;exact⟨false,r1,CQ h0,fun e=>(by cases e),fun _=>t6 rfl⟩
      |none=>
       have hgap:r1.gap_= -1:=hr1.2.2.2;rw[t7 (by rw[hgap];decide),show((1:Int))=((1:Nat):Int)from rfl,HD (by simp),aa]at h0;have hd:(58::t).drop 1=t:=rfl;rw[hd]at h0;rw[t7 (by simp)];have hr2:bT {r1 with gap_:=r1.n_} (l++[x]) (some (l.length+1)):=by
        refine⟨hr1.1,hr1.2.1,hr1.2.2.1,?_⟩;show r1.n_=((l.length+1:Nat):Int);rw[hr1.1];simp
       by_cases h0':t=[]
       ·rw[t6 (ua h0')]at h0;rw[t6 ((UT t).2 h0')];exact⟨true,_,CQ h0,fun _=>⟨_,_,rfl,hr2⟩,fun e=>(by cases e)⟩
       ·rw[t7 (by rw[t8];exact h0')]at h0;rw[t7 (fun e=>h0' ((UT t).1 e)),Fd h0];exact ih t _ _ _ ht (by omega) hr2
     ·rw[ub hq]at h0;simp only[ju,uc]at h0;have hne: ¬(u=[]∧v≠[]):=by
       rintro⟨rfl,hv⟩;cases q with
       |nil=>exact hv (ia euv).2.symm
       |cons c t=>
        have hc58:c≠58:=fun e=>hq (by rw[e];rfl);obtain⟨a,r',e⟩:=OT (t:=t) hc58;rw[e]at euv;have:=(ia euv).1;cases this
      rw[t7 hne,Fd h0,←euv];exact ih q _ _ _ (by omega) (by omega) hr1
end
section
theorem natI{σ β:Type}(n:Nat)(S:Nat→σ){F:σ→Option (σ⊕β)}{r:β}{s:σ}(h0:s=S 0)(h1: ∀i,i<n→F (S i)=some (.inl (S (i+1))))(h2:F (S n)=some (.inr r)):iter F s=some r:=by
 subst h0;have key: ∀k,k≤n→iter F (S (n-k))=some r:=by
  intro k
  induction k with
  |zero=>intro _;exact CQ h2
  |succ k ih=>
   intro hk;rw[Fd (h1 (n-(k+1)) (by omega)),show n-(k+1)+1=n-k by omega];exact ih (by omega)
 have:=key n (bc _)
 rwa [jz]at this
def QI(s:AP):Option (List Nat×Option Nat):=
 if s.take 2=[58,58]then(if s.drop 2=[]then some ([],some 0)else sP (some 0) [] (AT 58 (s.drop 2)))else sP none [] (AT 58 s)
def xB(l:List Nat):Option Nat→Option (List Nat)
 |none=>if l.length=8 then some l else none
 |some g=>if l.length=8 then none else some (l.take g++az (8-l.length) 0++l.drop g)
theorem AaB{s b:AP}(h:Il s=some ([],b)):s=58::58::b:=by
 match s,h with
 |[],h=>simp[Il]at h
 |[_],h=>simp[Il]at h
 |x::y::r,h=>
  rw[Il]at h
  split at h
  ·rename_i hc;obtain⟨rfl,rfl⟩:=hc;cases h;rfl
  ·obtain⟨q,_,hq⟩:=aj.1 h;cases hq
theorem take_two{s:AP}(h:s.take 2=[58,58]):s=58::58::s.drop 2:=by
 have:=c9 2 s;rw[h]at this;exact this.symm
theorem xA(s:AP):(∀l gp,QI s=some (l,gp)→l.length≤8∧ ∀g,gp=some g→g≤l.length)∧sA s=(match QI s with|none=>none|some (l,gp)=>(xB l gp).map Zc):=by
 unfold QI sA
 by_cases h2:s.take 2=[58,58]
 ·rw[t6 h2];have hs:=take_two h2;generalize s.drop 2=b at hs ⊢;subst hs;rw[gapS_58]
  by_cases hb:b=[]
  ·rw[t6 hb];subst hb;refine⟨fun l gp h=> ?_,rfl⟩;cases h;exact⟨by simp,fun g h=>(by cases h;simp)⟩
  ·rw[t7 hb,qE _ _ _ (Dd b) (by simp)];have e1:Sl false []=some []:=rfl;have e2:Sl true b=ET true (AT 58 b):=by unfold Sl;rw[t7 hb]
   dsimp only;rw[e1,e2];cases ET true (AT 58 b)with
   |none=>exact⟨fun l gp h=>(by cases h),rfl⟩
   |some m=>
    simp only[aa,bu,dc,dt]
    by_cases h8:m.length≤8
    ·rw[t6 h8];refine⟨fun l gp h=> ?_,?_⟩
     ·cases h;exact⟨h8,fun g h=>(by cases h;omega)⟩
     ·unfold xB;dsimp only
      by_cases h7:m.length=8
      ·rw[t6 h7,t7 (by omega)];rfl
      ·rw[t7 h7,t6 (by omega)];simp
    ·rw[t7 h8,t7 (by omega)];exact⟨fun l gp h=>(by cases h),rfl⟩
 ·rw[t7 h2,rdC_none s.length s [] (bc _) (by simp)];cases hg:Il s with
  |none=>
   dsimp only;have e1:Sl true s=if s=[]then some []else ET true (AT 58 s):=rfl;rw[e1]
   by_cases h0:s=[]
   ·subst h0;rw[t6 rfl];have e2:ET true (AT 58 [])=none:=rfl;rw[e2];exact⟨fun l gp h=>(by cases h),rfl⟩
   ·rw[t7 h0];cases ET true (AT 58 s)with
    |none=>exact⟨fun l gp h=>(by cases h),rfl⟩
    |some m=>
     simp only[aa,bu,dc,dt]
     by_cases h8:m.length≤8
     ·rw[t6 h8];refine⟨fun l gp h=> ?_,?_⟩
      ·cases h;exact⟨h8,fun g h=>(by cases h)⟩
      ·unfold xB;dsimp only
       by_cases h7:m.length=8
       ·rw[t6 h7,t6 h7];rfl
       ·rw[t7 h7,t7 h7];rfl
     ·rw[t7 h8,t7 (by omega)];exact⟨fun l gp h=>(by cases h),rfl⟩
  |some q=>
   obtain⟨a,b⟩:=q;dsimp only;have ha:a≠[]:=by
    rintro rfl;have:=AaB hg;rw[this]at h2;exact h2 rfl
   have e1:Sl false a=ET false (AT 58 a):=by unfold Sl;rw[t7 ha]
   have e2:Sl true b=if b=[]then some []else ET true (AT 58 b):=rfl;rw[e1,e2];cases ET false (AT 58 a)with
   |none=>exact⟨fun l gp h=>(by cases h),rfl⟩
   |some m=>
    simp only[aa];unfold iV;simp only[bu,dc,dt]
    by_cases h8:m.length≤8
    ·rw[t6 h8]
     by_cases hb:b=[]
     ·rw[t6 hb,t6 hb];refine⟨fun l gp h=> ?_,?_⟩
      ·cases h;exact⟨h8,fun g h=>by cases h;exact bc _⟩
      ·unfold xB;simp only[aa,bu,i6,f9,List.drop_length]
       by_cases h7:m.length=8
       ·rw[t6 h7,t7 (by omega)];rfl
       ·rw[t7 h7,t6 (by omega)];simp
     ·rw[t7 hb,t7 hb];cases ET true (AT 58 b)with
      |none=>exact⟨fun l gp h=>(by cases h),rfl⟩
      |some m'=>
       simp only[aa]
       by_cases h9:m.length+m'.length≤8
       ·rw[t6 h9];refine⟨fun l gp h=> ?_,?_⟩
        ·cases h;exact⟨by simpa using h9,fun g h=>(by cases h;simp)⟩
        ·unfold xB;simp only[an,ij,fh]
         by_cases h7:m.length+m'.length=8
         ·rw[t6 h7,t7 (by omega)];rfl
         ·rw[t7 h7,t6 (by omega),show 8-(m.length+m'.length)=8-m.length-m'.length by omega];rfl
       ·rw[t7 h9,t7 (by omega)];exact⟨fun l gp h=>(by cases h),rfl⟩
    ·rw[t7 h8];refine⟨fun l gp h=>(by cases h),?_⟩
     by_cases hb:b=[]
     ·rw[t6 hb];simp only[aa,bu];rw[t7 (by omega)]
     ·rw[t7 hb];cases ET true (AT 58 b)with
      |none=>rfl
      |some m'=>
       simp only[aa];rw[t7 (by omega)]
def readC(a0:AP):Option (Bool×AD):=
 (CY a0 [58,58]).bind fun x4=>
 (if x4=true then
 let x107:={(⟨(aw 8 dy).z,0,(-1)⟩:AD)with gap_:=0}
 (IW a0 (some 2) none).bind fun x108=>
 if(decide (x108=[]))=true then
 (some (true,x107)).map fun r=> .inr r
 else
 some (.inl (x108,x107))
 else
 some (.inl (a0,(⟨(aw 8 dy).z,0,(-1)⟩:AD))):Option ((AP×AD)⊕_)).bind (bd (fun(p5:(AP×AD))=>
 (iter Zs (p5.1,p5.2)).bind (bd (fun _:Empty=>none) some)) some)
theorem readC_val(s:AP)(hl:s.length<1073741824): ∃b r',readC s=some (b,r')∧(b=true→ ∃l' gp',QI s=some (l',gp')∧bT r' l' gp')∧(b=false→QI s=none):=by
 unfold readC QI;rw[eQ,aa];have ok0:bT (⟨(aw 8 dy).z,0,0⟩:AD) [] (some 0):=⟨rfl,by simp,rfl,rfl⟩;have ok1:bT (⟨(aw 8 dy).z,0,-1⟩:AD) [] none:=⟨rfl,by simp,rfl,rfl⟩;have hlen:([58,58]:AP).length=2:=rfl;rw[hlen]
 by_cases h2:s.take 2=[58,58]
 ·have h2l:2≤s.length:=by have:=ue jd h2;rw[aq]at this;simp at this;omega
  rw[t6 (ua h2),t6 h2];dsimp only;rw[show(2:Int)=((2:Nat):Int)from rfl,HD h2l,aa]
  by_cases hb:s.drop 2=[]
  ·rw[t6 (ua hb),t6 hb];exact⟨true,_,rfl,fun _=>⟨_,_,rfl,ok0⟩,fun e=>(by cases e)⟩
  ·rw[t7 (by rw[t8];exact hb),t7 hb];obtain⟨b,r',e,q1,q2⟩:=iD s.length (s.drop 2) _ [] (some 0) (by simp) hl ok0;refine⟨b,r',?_,q1,q2⟩;rw[aa];show(iter Zs (s.drop 2,_)).bind _=_;rw[e];rfl
 ·rw[t7 (by rw[t8];exact h2),t7 h2];obtain⟨b,r',e,q1,q2⟩:=iD s.length s _ [] none (bc _) hl ok1;refine⟨b,r',?_,q1,q2⟩;rw[aa];show(iter Zs (s,_)).bind _=_;rw[e];rfl
def pF(r:AD):Option ((Ar UInt16 8)×Bool):=
 if(decide (r.gap_<0))=true then
 some (r.g_,decide (r.n_=8))
 else
 if(decide (r.n_=8))=true then
 some (r.g_,false)
 else
 ((SV 8 none (some r.gap_)).map fun p=>p.2).bind fun x126=>
 (if 0+x126≤8 then bN ((aw 8 dy).z) 0 8 ((r.g_.l.drop 0).take x126)else none).bind fun x127=>
 let x131:=tx tz (tx tz (8-r.n_)+r.gap_)
 (SV 8 (some x131) none).bind fun x132=>
 (SV 8 (some r.gap_) (some r.n_)).bind fun x135=>
 (if x135.1+(x135.2-x135.1)≤8 then bN x127 x132.1 (x132.2-x132.1) ((r.g_.l.drop x135.1).take (x135.2-x135.1))else none).bind fun x136=>
 some (x136,true)
abbrev zG:Ar UInt16 8:=(aw 8 dy).z
theorem z8:zG.l=az 8 0:=rfl
theorem tC{r:AD}{l:List Nat}{gp:Option Nat}(h:bT r l gp)(hg: ∀g,gp=some g→g≤l.length): ∃G b,pF r=some (G,b)∧(b=true→ ∃L,xB l gp=some L∧L.length=8∧G.l=L.map ca)∧(b=false→xB l gp=none):=by
 obtain⟨h1,h2,h3,h4⟩:=h;unfold pF xB;cases gp with
 |none=>
  have h4':r.gap_= -1:=h4;rw[h4',t6 (by decide),h1];dsimp only
  by_cases h8:l.length=8
  ·rw[t6 h8];refine⟨_,_,rfl,fun _=>⟨l,rfl,h8,?_⟩,fun e=> ?_⟩
   ·rw[←h3,au (by rw[r.g_.len];omega)]
   ·rw[decide_eq_false_iff_not]at e;omega
  ·rw[t7 h8];refine⟨_,_,rfl,fun e=> ?_,fun _=>rfl⟩;rw[t8]at e;omega
 |some g=>
  have hgl:=hg g rfl;have h4':r.gap_=(g:Int):=h4;rw[h4',t7 (by rw[t8];omega),h1];dsimp only
  by_cases h8:l.length=8
  ·rw[t6 (by rw[h8];rfl),t6 h8];exact⟨_,_,rfl,fun e=>(by cases e),fun _=>rfl⟩
  ·rw[t7 (by rw[t8];omega),t7 h8];have hgt:r.g_.l.take g=(l.take g).map ca:=by
    rw[ox,←h3,kp,fq hgl]
   have hgd:(r.g_.l.drop g).take (l.length-g)=(l.drop g).map ca:=by
    rw[List.map_drop,←h3,ic]
   have hc1:(if 0+g≤8 then bN zG 0 8 ((r.g_.l.drop 0).take g)else none)=some (⟨(l.take g).map ca++az (8-g) 0,by simp;omega⟩:Ar UInt16 8):=by
    rw[t6 (by omega),dq,hgt];unfold bN;rw[dif_pos (by omega)];congr 1;apply pi;show zG.l.take 0++_++zG.l.drop _=_;rw[z8];simp only[lq,dt,cj,aq,List.drop_replicate];rw[au (by simp;omega)];congr 2;omega
   have hc2: ∀k,k=8-l.length+g→(if g+(l.length-g)≤8 then bN (⟨(l.take g).map ca++az (8-g) 0,by simp;omega⟩:Ar UInt16 8) k (8-k) ((r.g_.l.drop g).take (l.length-g))else none)=some (⟨(l.take g++az (8-l.length) 0++l.drop g).map ca,by simp;omega⟩:Ar UInt16 8):=by
    rintro k rfl;rw[t6 (by omega),hgd];unfold bN;rw[dif_pos (by omega)];congr 1;apply pi;have e1:((l.take g).map ca).length=g:=by rw[cj,aq];omega
    have A1:((l.take g).map ca++az (8-g) 0).take (8-l.length+g)=(l.take g).map ca++az (8-l.length) 0:=by
     rw[jq,e1,au (by rw[e1];omega),List.take_replicate,show min (8-l.length+g-g) (8-g)=8-l.length by omega]
    have A2: ∀m,8≤m→((l.take g).map ca++az (8-g) 0).drop m=[]:=fun m hm=>k0 (by simp;omega);have A3:((l.drop g).map ca).take (8-(8-l.length+g))=(l.drop g).map ca:=au (by simp;omega);show((l.take g).map ca++az (8-g) 0).take (8-l.length+g)++((l.drop g).map ca).take (8-(8-l.length+g))++((l.take g).map ca++az (8-g) 0).drop _=(l.take g++az (8-l.length) 0++l.drop g).map ca;rw[A1,A3,A2 _ (by simp;omega),ei,df,df,List.map_replicate]
    rfl
   refine⟨(⟨(l.take g++az (8-l.length) 0++l.drop g).map ca,by simp;omega⟩:Ar UInt16 8),true,?_,fun _=>⟨_,rfl,by simp;omega,rfl⟩,fun e=>(by cases e)⟩;refine(ue (fun x:Option Nat=>x.bind _) (AaX (n:=8) (m:=g) (by omega))).trans ?_;refine(ue (fun x:Option (Ar UInt16 8)=>x.bind _) hc1).trans ?_;have hw:tx tz (tx tz (8-(l.length:Int))+(g:Int))=((8-l.length+g:Nat):Int):=by
    rw[show(8:Int)-(l.length:Int)=((8-l.length:Nat):Int) by omega,B6 (by omega),show((8-l.length:Nat):Int)+(g:Int)=((8-l.length+g:Nat):Int) by omega,B6 (by omega)]
   refine(ue (fun x:Int=>(SV 8 (some x) none).bind _) hw).trans ?_;refine(ue (fun x:Option (Nat×Nat)=>x.bind _) (xK (n:=8) (a:=8-l.length+g) (by omega))).trans ?_;refine(ue (fun x:Option (Nat×Nat)=>x.bind _) (xL (n:=8) hgl (by omega))).trans ?_;exact(ue (fun x:Option (Ar UInt16 8)=>x.bind _) (hc2 _ rfl)).trans rfl
end
section
def vV(L:List Nat):Nat→Ar UInt8 16
 |0=>(aw 16 bi).z
 |i+1=>((vV L i).set (2*i) (bb (L.getD i 0/256))).set (2*i+1) (bb (L.getD i 0%256))
theorem vU{L:List Nat}(h:L.length=8):vV L 8=iY (Zc L):=by
 match L,h with
 |[a,b,c,d,e,f,g,k],_=>rfl
theorem hi_byte(n:Nat):Kx ((Da (kw ((ca n).toNat:Int) 256)).toNat:Int)=bb (n/256):=by
 have h:=(ca n).toNat_lt;have e:kw ((ca n).toNat:Int) 256=(((ca n).toNat/256:Nat):Int):=by
  rw[n9 _ (by decide)];rfl
 rw[e,LQ (by omega),ja];apply ii.1;show(bb _).toNat=_;rw[gi,gi];omega
theorem lo_byte(n:Nat):Kx ((ca n).toNat:Int)=bb (n%256):=by
 rw[ja];apply ii.1;show(bb _).toNat=_;rw[gi,gi];omega
def AbJ(G:Ar UInt16 8)(s148:Int×(Ar UInt8 16)):Option ((Int×(Ar UInt8 16))⊕((Ar UInt8 16)⊕((Ar UInt8 16)×Int))):=
 if(decide (s148.1<8))=true then
 (DN G.l s148.1).bind fun x151=>
 let x154:=tx tz (tx tz (2*s148.1)+1)
 (if((8:UInt64).toNat:Int)<0 then none else some (Da (kw (x151.toNat:Int) (2^(min ((8:UInt64).toNat:Int).toNat 16))))).bind fun x155=>
 (Dl 16 (tx tz (2*s148.1))).bind fun x158=>
 (if x158<16 then some (s148.2.set x158 (Kx (x155.toNat:Int)))else none).bind fun x159=>
 (Dl 16 x154).bind fun x160=>
 (if x160<16 then some (x159.set x160 (Kx (x151.toNat:Int)))else none).bind fun x161=>
 some (.inl (tx tz (s148.1+1),x161))
 else
 some (.inr (.inl s148.2))
theorem stepB_val{G:Ar UInt16 8}{L:List Nat}(hL:L.length=8)(hG:G.l=L.map ca){i:Nat}(hi:i<8):AbJ G ((i:Int),vV L i)=some (.inl (((i+1:Nat):Int),vV L (i+1))):=by
 have e8:(2:Int)^(min ((8:UInt64).toNat:Int).toNat 16)=256:=by decide
 have eg:L.getD i 0=L[i]'(by omega):=by rw[ma,ab (by omega)];rfl
 unfold AbJ;dsimp only;rw[t6 (by rw[t8];omega),By,hG,ge,ab (by omega),ak,aa,←eg];rw[t7 (by decide),aa,e8];rw[show(2:Int)*(i:Int)=((2*i:Nat):Int) by omega,B6 (by omega),E7 (by omega),aa,t6 (by omega),aa,show((2*i:Nat):Int)+1=((2*i+1:Nat):Int) by omega,B6 (by omega),E7 (by omega),aa,t6 (by omega),aa,hi_byte,lo_byte,show(i:Int)+1=((i+1:Nat):Int) by omega,B6 (by omega)]
 rfl
theorem AaV{G:Ar UInt16 8}{L:List Nat}(hL:L.length=8)(hG:G.l=L.map ca):iter (AbJ G) (0,(aw 16 bi).z)=some (.inl (iY (Zc L))):=by
 rw[←vU hL];refine natI 8 (fun i=>((i:Int),vV L i)) rfl (fun i hi=>stepB_val hL hG hi) ?_
 rfl
theorem iE(s:AP):Pv s=(readC s).bind fun p3=>if(!p3.1)=true then some ((aw 16 bi).z,5)else(pF p3.2).bind fun p113=>if(!p113.2)=true then some ((aw 16 bi).z,5)else(iter (AbJ p113.1) (0,(aw 16 bi).z)).bind (bd (fun p=>some (p,(0:Int))) some):=rfl
theorem wY(s:AP)(hl:s.length<1073741824):Pv s=some (match sA s with|some l=>(iY l,0)|none=>((aw 16 bi).z,5)):=by
 obtain⟨hc1,hc2⟩:=xA s;obtain⟨b,r,e,q1,q2⟩:=readC_val s hl;rw[iE,e,aa,hc2];cases b with
 |false=>rw[q2 rfl];rfl
 |true=>
  obtain⟨l,gp,h1,h2⟩:=q1 rfl;obtain⟨G,b',e',w1,w2⟩:=tC h2 (hc1 l gp h1).2;rw[h1];dsimp only;rw[t7 (by decide),e',aa];cases b' with
  |false=>rw[w2 rfl];rfl
  |true=>
   obtain⟨L,z1,z2,z3⟩:=w1 rfl;rw[z1];dsimp only;rw[t7 (by decide),AaV z2 z3]
   rfl
theorem rY(l:AP)(c:UInt8)(hl:l.length<1099511627776):Fc l c=some (LC c l):=by
 rcases Xv l c hl with ⟨h,e⟩|⟨p,q,rfl,h,e⟩
 ·have:c∉l:=fun h'=>h c h' rfl;rw[e];unfold LC;rw[t7 this]
 ·have:c∉p:=fun h'=>h c h' rfl;rw[e,iB this]
theorem wV(l:AP)(c:UInt8):(LC c l).2.2=decide (c∈l):=by
 unfold LC
 by_cases h:c∈l
 ·rw[t6 h,ua h]
 ·rw[t7 h,ub h]
theorem addr_four(a:Ar UInt8 4):LL a=some ⟨4,iY (a.l++az 12 0)⟩:=by
 obtain⟨l,h⟩:=a
 match l,h with
 |[a,b,c,d],_=>rfl
theorem jA(s:AP)(hl:s.length<1073741824):O6 s=some (J1 s):=by
 unfold O6 J1;rw[rY s 58 (by omega),aa,wV]
 by_cases h:(58:UInt8)∈s
 ·rw[t6 (ua h),t6 h,wY s hl,aa];cases sA s with
  |none=>rfl
  |some l=>rfl
 ·rw[t7 (by rw[t8];exact h),t7 h,eN s hl,aa];unfold AbR;dsimp only
  by_cases hq:(DS s).2=0
  ·rw[t7 (by simp[hq]),t6 hq,addr_four];unfold ar4;rw[dif_pos (Yy s)]
   rfl
  ·rw[t6 (by simp[hq]),t7 hq]
   rfl
theorem mR(a b:UInt8)(r:AP):kb ([93,58]:AP) (a::b::r)=decide (a=93∧b=58):=by
 by_cases h:a=93∧b=58
 ·obtain⟨rfl,rfl⟩:=h;simp[kb]
 ·rw[ub h];simp only[kb,lc,Bool.and_eq_false_iff,beq_eq_false_iff_ne];rcases Classical.not_and_iff_not_or_not.1 h with h|h
  ·exact .inl fun e=>h e.symm
  ·exact .inr fun e=>h e.symm
theorem VH: ∀s:AP,(VT s=none∧Lib.index s [93,58]= -1)∨ ∃p q,s=p++93::58::q∧VT s=some (p,q)∧Lib.index s [93,58]=(p.length:Int)
 |[]=> .inl ⟨rfl,rfl⟩
 |[a]=> .inl ⟨rfl,by simp[Lib.index,kb]⟩
 |a::b::r=>by
  by_cases h:a=93∧b=58
  ·obtain⟨rfl,rfl⟩:=h;exact .inr ⟨[],r,rfl,by rw[VT,t6 ⟨rfl,rfl⟩],by rw[Lib.index,t6 (by rw[mR];rfl)];rfl⟩
  ·have hp: ¬kb ([93,58]:AP) (a::b::r)=true:=by rw[mR,t8];exact h
   rcases VH (b::r)with ⟨h1,h2⟩|⟨p,q,h1,h2,h3⟩
   ·exact .inl ⟨by rw[VT,t7 h,h1];rfl,by rw[Lib.index,t7 hp,h2];rfl⟩
   ·refine .inr ⟨a::p,q,by rw[h1];rfl,by rw[VT,t7 h,h2];rfl,?_⟩;rw[Lib.index,t7 hp,h3,t7 (by rw[beq_iff_eq];omega)];simp
theorem cut2_val(s:AP)(hl:s.length<1073741824):OS s [93,58]=some (match VT s with|none=>(s,[],false)|some (p,q)=>(p,q,true)):=by
 have hi:Ck s [93,58]=some (Lib.index s [93,58]):=by
  unfold Ck indexS;rw[t6 (by omega)]
 unfold OS G3;rw[hi,aa];rcases VH s with ⟨h1,h2⟩|⟨p,q,h1,h2,h3⟩
 ·rw[h1,h2];rfl
 ·rw[h2,h3,t6 (by rw[t8];omega)];have hlen:s.length=p.length+(q.length+2):=by rw[h1];simp
  have e2:(([93,58]:AP).length:Int)=2:=rfl;rw[TZ (by omega),aa,e2,show(p.length:Int)+2=((p.length+2:Nat):Int) by omega,B6 (by omega),HD (by omega),aa,h1];have a1:(p++93::58::q).take p.length=p:=List.take_left;have a2:(p++93::58::q).drop (p.length+2)=q:=by
   rw[←cw,List.drop_left];rfl
  rw[a1,a2]
  rfl
theorem cutp_val(s:AP)(hl:s.length<1073741824):HX s [91]=some (if s.head?=some 91 then(s.drop 1,true)else(s,false)):=by
 have hp:Cj s [91]=some (decide (s.head?=some 91)):=by
  cases s with
  |nil=>rfl
  |cons a r=>
   unfold Cj;rw[show decide ((([91]:AP).length:Int)≤((a::r).length:Int))=true from ua (by simp only[ba,bu];omega),show(([91]:AP).length:Int)=((1:Nat):Int)from rfl,TZ (by simp)];show some (decide ([a]=[91]))=_;congr 1;simp
 unfold HX EA;rw[hp,aa]
 by_cases h:s.head?=some 91
 ·have hn:1≤s.length:=by cases s with
   |nil=>simp at h
   |cons a r=>simp
  rw[t7 (by rw[ua h];decide),t6 h,show(([91]:AP).length:Int)=((1:Nat):Int)from rfl,HD hn]
  rfl
 ·rw[t6 (by rw[ub h];decide),t7 h]
  rfl
theorem cut2_len{s p q:AP}(h:VT s=some (p,q)):p.length+q.length≤s.length:=by
 rcases VH s with ⟨h1,_⟩|⟨p',q',h1,h2,_⟩
 ·rw[h1]at h;cases h
 ·rw[h2]at h;cases h;have:=ue jd h1;simp at this;omega
theorem Aa7(s:AP)(hl:s.length<1073741824): ∃a b c,J5 s=some (a,b,c)∧ZE s=(if c=true then some (a,b)else none)∧a.length≤s.length∧b.length≤s.length:=by
 unfold J5 ZE;rw[cutp_val s hl,aa]
 by_cases h:s.head?=some 91
 ·rw[t6 h,t6 h];dsimp only;rw[t6 rfl,cut2_val _ (by simp;omega),aa];cases hc:VT (s.drop 1)with
  |none=>exact⟨_,_,_,rfl,rfl,by simp,by simp⟩
  |some pq=>
   obtain⟨p,q⟩:=pq;have hlen:=cut2_len hc;rw[bk]at hlen;dsimp only;refine⟨p,q,decide (58∈p),?_,?_,by omega,by omega⟩
   ·rw[PK p 58 (by omega)];rfl
   ·rw[aa]
    by_cases hm:(58:UInt8)∈p
    ·rw[t6 hm,t6 (ua hm)]
    ·rw[t7 hm,t7 (by rw[t8];exact hm)]
 ·rw[t7 h,t7 h];dsimp only;rw[t7 (by decide)];have hi:DN ([58]:AP) 0=some 58:=rfl;rw[hi,aa,rY s 58 (by omega),aa];refine⟨_,_,_,rfl,?_,?_,?_⟩
  ·rw[wV]
   by_cases hm:(58:UInt8)∈s
   ·rw[t6 hm,t6 (ua hm)]
   ·rw[t7 hm,t7 (by rw[t8];exact hm)]
  ·unfold LC
   split
   ·exact p0 (qa _)
   ·exact bc _
  ·unfold LC
   split
   ·have:=p0 (qb (l:=s) (fun x=>x != 58));simp only[bk];omega
   ·simp
theorem fS(s:AP)(hl:s.length<1073741824):Is s=some (fT s):=by
 obtain⟨a,b,c,h1,h2,h3,h4⟩:=Aa7 s hl;unfold Is fT;rw[h1,aa,h2];cases c with
 |false=>rfl
 |true=>
  rw[t6 rfl];dsimp only;rw[t7 (by decide),jA a (by omega),aa]
  by_cases ha:(J1 a).2=0
  ·rw[t7 (by simp[ha]),t6 ha,N3 b _ (by omega),aa];unfold lI;have em:(65535:UInt64).toNat=65535:=rfl;rw[em];dsimp only
   by_cases hd:(Du b 65535).2=0
   ·have hb:(Du b 65535).1≤65535:=by
     unfold Du at hd ⊢
     split
     ·simp
     ·split
      ·simp
      ·dsimp only;omega
    rw[t7 (by simp[hd]),t6 hd];have et:(d7 (Du b 65535).1).toNat=(Du b 65535).1:=by rw[jb];omega
    rw[et]
    by_cases h0:(Du b 65535).1=0
    ·rw[t6 (by rw[t8,h0];rfl),t6 h0];rfl
    ·rw[t7 (by rw[t8];intro e;exact h0 (Int.ofNat.inj e)),t7 h0,B6 (by omega)]
   ·rw[t6 (by simp[hd]),t7 hd];rfl
  ·rw[t6 (by simp[ha]),t7 ha];rfl
end
section
theorem AbU{n:Nat}(h:n<18446744073709551616):(d7 n).toNat=n:=by rw[jb];omega
end
section
def q0(x:AP)(i:Nat):UInt8:=(DS x).1.getD i 0
end
section
end
section
end
section
theorem cidr_of(a:AG)(n:Int):RC a n=some (ofP a n):=by
 unfold RC ofP;rw[LK,aa]
 by_cases h:Dm a=true
 ·rw[t7 (by simp[h]),t6 h]
  by_cases h1:n<0
  ·have:(FL (decide (n<0)) ((H4 a).bind fun x9=>some (decide (x9<n))))=some true:=by rw[ua h1];rfl
   rw[this,aa,t6 rfl,t6 (.inl h1)];rfl
  ·have e:(FL (decide (n<0)) ((H4 a).bind fun x9=>some (decide (x9<n))))=some (decide ((CI a:Int)<n)):=by
    rw[ub h1,O5];rfl
   rw[e,aa];have hw:=Qc a
   by_cases h2:(CI a:Int)<n
   ·rw[t6 (ua h2),t6 (.inr h2)];rfl
   ·rw[t7 (by rw[t8];exact h2),t7 (by omega)];obtain⟨k,rfl⟩: ∃k:Nat,n=(k:Int):=⟨n.toNat,by omega⟩;rw[oR a k (by omega) h,aa];have:iY (MX a.B.l k)=⟨MX a.B.l k,by rw[L1,a.B.len]⟩:=by
     unfold iY;rw[dif_pos (by rw[L1,a.B.len])]
    rw[show((k:Int)).toNat=k from rfl,this]
 ·rw[t6 (by simp[h]),t7 h];rfl
theorem xQ{s:AP}(h:(J1 s).2=0):Dm (J1 s).1=true:=by
 unfold J1 at h ⊢
 by_cases h6:(58:UInt8)∈s
 ·rw[t6 h6]at h ⊢;revert h;cases sA s with
  |none=>intro h;cases h
  |some l=>intro _;unfold Dm;exact ua (.inl rfl)
 ·rw[t7 h6]at h ⊢
  by_cases hq:(DS s).2=0
  ·rw[t6 hq]at h ⊢;have hl:=Yy s;generalize (DS s).1=B at hl ⊢
   match B,hl with
   |[a,b,c,d],_=>rfl
  ·rw[t7 hq]at h;exact absurd h hq
theorem ofP_whole{a:AG}(h:Dm a=true):(ofP a (CI a:Int)).2=0:=by
 unfold ofP;rw[t6 h,t7 (by omega)]
theorem whole_val{a:AG}:RB a=some (ofP a (CI a:Int)).1:=by
 unfold RB;rw[Qw,O5,aa,Qw,cidr_of,aa]
theorem cutB_len(s:AP)(c:UInt8):(LC c s).1.length≤s.length∧(LC c s).2.1.length≤s.length:=by
 unfold LC
 split
 ·refine⟨(qa _).length_le,?_⟩;have:=(qb (p:=fun x=>x != c) (l:=s)).length_le;rw[bk];omega
 ·exact⟨bc _,dz _⟩
theorem decP_eq(s:AP){m:Nat}(h:m≤128):lI s (Cw (m:Int))=(d7 (Du s m).1,(Du s m).2):=by
 have e:(Cw (m:Int)).toNat=m:=LP (by omega);unfold lI;rw[e]
theorem decR_le(s:AP)(m:Nat):(Du s m).1≤m:=by
 unfold Du
 split
 ·exact dz _
 ·split
  ·exact dz _
  ·dsimp only;omega
theorem AaT(s:AP)(hl:s.length<1073741824):Oj s=some (iG s):=by
 have hc:=cutB_len s 47;unfold Oj iG;rw[rY s 47 (by omega),aa,jA _ (by omega),aa];dsimp only
 by_cases ha:(J1 (LC 47 s).1).2=0
 ·rw[t7 (by simp[ha]),t6 ha];cases hb:(LC 47 s).2.2 with
  |false=>
   refine(t6 rfl).trans (pc ?_ (ue some (t7 r5).symm));rw[whole_val,aa];have:=ofP_whole (xQ ha);rw[show((ofP (J1 (LC 47 s).1).1 (CI (J1 (LC 47 s).1).1:Int)).1,(0:Int))=ofP (J1 (LC 47 s).1).1 (CI (J1 (LC 47 s).1).1:Int)from by rw[←this]]
  |true=>
   have hw:=Qc (J1 (LC 47 s).1).1;refine(t7 r5).trans (pc ?_ (ue some (t6 rfl).symm));rw[O5,aa,N3 _ _ (by omega),aa,decP_eq _ hw];dsimp only
   by_cases hn:(Du (LC 47 s).2.1 (CI (J1 (LC 47 s).1).1)).2=0
   ·have hle:=decR_le (LC 47 s).2.1 (CI (J1 (LC 47 s).1).1);rw[t7 (by simp[hn]),t6 hn,cidr_of,aa,AbU (by omega),B6 (by omega)]
   ·rw[t6 (by simp[hn]),t7 hn];rfl
 ·rw[t6 (by simp[ha]),t7 ha];rfl
end
section
theorem nm_get: ∀w:Fin 17,fZ.l[w.1]? =some (H8 w.1):=by decide+kernel
theorem nm_nil:Fw []=0:=by decide+kernel
theorem cU{k:AP}(h: ∀w:Nat,1≤w→w<17→H8 w≠k):Fw k=0:=by
 unfold Fw;rw[ol.2]
 ·rfl
 ·intro w hw;have:=dx.1 hw;simpa using h w (by omega) (by omega)
theorem wordF_lt(k:AP):Fw k<17:=by
 by_cases h: ∃w:Fin 17,1≤w.1∧H8 w.1=k
 ·obtain⟨w,h1,rfl⟩:=h;rw[JH w h1];exact w.2
 ·rw[cU fun w h1 h2 e=>h ⟨⟨w,h2⟩,h1,e⟩];decide
theorem R4(k:AP):Ec k=some (Fw k:Int):=by
 unfold Ec;rw[nL _ _ (by decide),C0,aa];have hl:fZ.l.length=17:=rfl;cases h:fZ.l.findIdx? (fun y=>decide (k=y))with
 |none=>
  rw[j9]at h;have:Fw k=0:=cU fun w h1 h2 e=>by
   have:=h _ (d8 (nm_get ⟨w,h2⟩));simp[e]at this
  rw[this];rfl
 |some i=>
  obtain⟨hi,h1,_⟩:=ir.1 h;have h2:=nm_get ⟨i,by omega⟩;rw[ab hi]at h2;have hk:k=H8 i:=by rw[←be h2];exact of_decide_eq_true h1
  have:Fw k=i:=by
   by_cases h0:i=0
   ·subst h0;rw[hk];exact nm_nil
   ·rw[hk];exact JH ⟨i,by omega⟩ (show 1≤i by omega)
  rw[this];show some (if(0:Int)>(i:Int)then(0:Int)else(i:Int))=_;rw[t7 (by omega)]
def Zr(o:Option (Int×Aq)):Option (Aq×Int):=o.bind fun q=>if(!decide (q.1=0))=true then some (noF,q.1)else some (q.2,0)
theorem N7(e:Int)(f:Aq):Zr (some (e,f))=some (if e=0 then(f,0)else(noF,e)):=by
 unfold Zr;rw[aa]
 by_cases h:e=0
 ·rw[t7 (by simp[h]),t6 h]
 ·rw[t6 (by simp[h]),t7 h]
theorem fr_key{p:At}{w:Nat}(hw:K1 w)(e:Ec p.Key=some (w:Int)):DD p=Zr ((Jn p.Value).bind fun x=>some (x.2,(⟨w,x.1,0,zE,zP⟩:Aq))):=by
 unfold DD;rw[e];unfold K1 at hw;rcases hw with rfl|rfl|rfl<;>rfl
theorem fr_host{p:At}(e:Ec p.Key=some 9):DD p=Zr ((Is p.Value).bind fun x=>some (x.2,(⟨9,zK,0,x.1,zP⟩:Aq))):=by
 unfold DD;rw[e];rfl
theorem fr_pre{p:At}(e:Ec p.Key=some 12):DD p=Zr ((Oj p.Value).bind fun x=>some (x.2,(⟨12,zK,0,zE,x.1⟩:Aq))):=by
 unfold DD;rw[e];rfl
theorem fr_flag{p:At}{w:Nat}(hw:J4 w)(e:Ec p.Key=some (w:Int)):DD p=Zr ((if(!decide (p.Value=[116,114,117,101]))=true then some 5 else some 0).bind fun x=>some (x,(⟨w,zK,0,zE,zP⟩:Aq))):=by
 unfold DD;rw[e];unfold J4 at hw
 by_cases hv:p.Value=[116,114,117,101]
 ·rcases hw with rfl|rfl|rfl|rfl<;>(rw[hv];rfl)
 ·have:(if(!decide (p.Value=[116,114,117,101]))=true then some (5:Int)else some 0)=some 5:=t6 (by simp[hv]);rcases hw with rfl|rfl|rfl|rfl<;>(rw[this];rfl)
def numF(v:AP)(w:Nat)(m l:UInt64):Option (Int×Aq):=
 (G2 v m).bind fun x=>(Cr (decide (x.2=0)) (some (decide ((x.1.toNat:Int)<(l.toNat:Int))))).bind fun y=>(if y=true then some (.inl 6)else some (.inl x.2):Option (Int⊕(Int×Aq))).bind (bd (fun q=>some (q,(⟨w,zK,x.1,zE,zP⟩:Aq))) some)
theorem fr_num{p:At}{w:Nat}(hw:w=2∨w=3∨w=10∨w=13∨w=14∨w=15∨w=16)(e:Ec p.Key=some (w:Int)):DD p=Zr (numF p.Value w (d7 (Vb w)) (d7 (VD w))):=by
 unfold DD;rw[e];rcases hw with rfl|rfl|rfl|rfl|rfl|rfl|rfl<;>rfl
theorem numF_val(v:AP)(hl:v.length<1073741824)(w m l:Nat)(hm:m<18446744073709551616)(hlm:l<18446744073709551616):
  Zr (numF v w (d7 m) (d7 l))=some (if(Du v m).2=0 then(if(Du v m).1<l then(noF,6)else(⟨w,zK,d7 (Du v m).1,zE,zP⟩,0))else(noF,(Du v m).2)):=by
 unfold numF;have hle:=decR_le v m;rw[N3 _ _ hl,aa];unfold lI;rw[AbU hm];dsimp only
 by_cases h:(Du v m).2=0
 ·rw[t6 h,h,AbU (by omega),AbU hlm]
  by_cases h2:(Du v m).1<l
  ·rw[t6 h2];have:Cr (decide ((0:Int)=0)) (some (decide (((Du v m).1:Int)<(l:Int))))=some true:=by rw[ua (by omega:((Du v m).1:Int)<(l:Int))];rfl
   rw[this];rfl
  ·rw[t7 h2];have:Cr (decide ((0:Int)=0)) (some (decide (((Du v m).1:Int)<(l:Int))))=some false:=by rw[ub (by omega: ¬((Du v m).1:Int)<(l:Int))];rfl
   rw[this];rfl
 ·rw[t7 h];have:Cr (decide ((Du v m).2=0)) (some (decide ((((d7 (Du v m).1).toNat:Nat):Int)<(((d7 l).toNat:Nat):Int))))=some false:=by rw[ub h];rfl
  rw[this];exact(N7 _ _).trans (by rw[t7 h])
theorem wcases(w:Fin 17):w.1=0∨K1 w.1∨w.1=9∨w.1=12∨J4 w.1∨(w.1=2∨w.1=3∨w.1=10∨w.1=13∨w.1=14∨w.1=15∨w.1=16):=by
 have h:=w.2;unfold K1 J4;omega
theorem WQ{w:Nat}(h:J4 w): ¬w=0∧ ¬K1 w∧ ¬w=9∧ ¬w=12:=by unfold J4 at h;unfold K1;omega
theorem WP{w:Nat}(h:w=2∨w=3∨w=10∨w=13∨w=14∨w=15∨w=16): ¬w=0∧ ¬K1 w∧ ¬w=9∧ ¬w=12∧ ¬J4 w:=by unfold J4 K1;omega
theorem neg_key{w:Nat}(h:K1 w): ¬w=0:=by unfold K1 at h;omega
theorem most_lt(w:Nat):Vb w<18446744073709551616:=by unfold Vb;(repeat' split)<;>decide
theorem least_lt(w:Nat):VD w<18446744073709551616:=by unfold VD;(repeat' split)<;>decide
theorem gI(p:At)(hl:p.Value.length<1073741824):DD p=some (Og p):=by
 have e:=R4 p.Key;have hw:=wcases ⟨Fw p.Key,wordF_lt p.Key⟩;dsimp only at hw;unfold Og;generalize Fw p.Key=w at e hw ⊢;rcases hw with rfl|h|rfl|rfl|h|h
 ·unfold DD;rw[e];rfl
 ·rw[fr_key h e,kS _ hl,t7 (neg_key h),t6 h];exact N7 _ _
 ·rw[fr_host e,fS _ hl,t7 (by decide),t7 (by decide),t6 rfl];exact N7 _ _
 ·rw[fr_pre e,AaT _ hl,t7 (by decide),t7 (by decide),t7 (by decide),t6 rfl];exact N7 _ _
 ·rw[fr_flag h e,t7 (WQ h).1,t7 (WQ h).2.1,t7 (WQ h).2.2.1,t7 (WQ h).2.2.2,t6 h]
  by_cases hv:p.Value=[116,114,117,101]
  ·rw[t6 hv,hv];exact N7 0 _
  ·rw[t7 hv,show(if(!decide (p.Value=[116,114,117,101]))=true then some (5:Int)else some 0)=some 5 from t6 (by simp[hv])];exact N7 5 _
 ·rw[fr_num h e,numF_val _ hl _ _ _ (most_lt _) (least_lt _),t7 (WP h).1,t7 (WP h).2.1,t7 (WP h).2.2.1,t7 (WP h).2.2.2.1,t7 (WP h).2.2.2.2]
end
end
end Go.Proofs.YtfdkkkdbknbmaaaGreatDoor.Am
