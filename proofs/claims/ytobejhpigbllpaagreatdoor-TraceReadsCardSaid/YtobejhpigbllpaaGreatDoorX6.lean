/-
  What functions compute, and that they do. Printed by mkwalk.py.
-/
import Derived.Test.YtobejhpigbllpaaGreatDoorX5
set_option linter.unusedVariables false
set_option linter.unusedSimpArgs false
namespace Go.Proofs.YtobejhpigbllpaaGreatDoor.Am
open AU renaming nil→cf, op→ga
open Aa renaming and→dm, cond→al, loop→dj, next→co, op→am, or→jn, ret→az, skip→ap
open Ar renaming ext→pi
open BitVec renaming ofInt→cm, toNat_ofInt→gx, toNat_or→nh
open Bool renaming and_eq_true→af, and_true→kp, eq_iff_iff→i8, false_eq_true→au, not_eq_true'→cg, not_true→kr
open _root_.ByteArray renaming size→l9
open Eq renaming trans→li
open FG renaming arr→po, u8→qe
open GS renaming l→l6
open IT renaming u64→cz, u8→d3
open Int renaming fdiv→jl, fdiv_eq_ediv_of_nonneg→l7, natCast_add→ng, ofNat_fdiv→n4, ofNat_le→pg, ofNat_tdiv→iw, ofNat_tmod→k5, tdiv→gc, tmod→gj, toNat_of_nonneg→ol
open Int.ofNat renaming inj→ia
open IntKind renaming i64→qm, wrap→ql
open List renaming all_append→jt, all_cons→fc, all_eq_true→cd, append_assoc→dl, append_inj_right'→nc, append_nil→dv, concat_eq_append→nq, cons_append→dt, countP_le_length→eu, drop_append→kf, drop_append_of_le_length→dn, drop_drop→ck, drop_eq_getElem_cons→bk, drop_eq_nil_of_le→jp, drop_left→n6, drop_left'→ez, drop_of_length_le→ce, drop_take→gb, drop_zero→db, eq_nil_of_length_eq_zero→cj, eq_nil_or_concat→nn, exists_cons_of_ne_nil→cn, ext_getElem?→ii, findIdx?_cons→mb, findSome?_eq_none_iff→ka, flatMap_cons→eh, flatMap_nil→mw, foldl_cons→ll, getD_eq_getElem?_getD→kc, getElem?_cons_succ→c0, getElem?_cons_zero→bx, getElem?_drop→eo, getElem?_eq_getElem→ad, getElem?_eq_none→f9, getElem?_map→ff, getElem?_replicate→m5, getElem?_set→k4, getElem?_take→dp, getElem_mem→kl, getElem_set_self→nm, isPrefixOf→i', length→f8, length_append→aw, length_cons→bb, length_drop→bh, length_eq_zero_iff→fb, length_map→e9, length_nil→bz, length_pos_iff→lr, length_set→fy, length_singleton→gv, length_take→a6, map_append→de, map_cons→bn, map_map→na, map_singleton→iz, map_take→oo, mem_append→go, mem_cons→bu, mem_cons_of_mem→bg, mem_map→ls, mem_of_getElem?→cq, mem_range'_1→gk, mem_singleton→gf, nil_append→dw, range→ik, range'→fh, range'_append_1→n3, range'_succ→kg, range_eq_range'→lh, replicate→aq, replicate_succ→jg, singleton_append→er, sum_cons→ot, take_append→gw, take_append_drop→fq, take_left'→il, take_length→kj, take_of_length_le→av, take_set_of_le→oj, take_succ_eq_append_getElem→bd, take_take→ji, take_zero→j5
open List.Sublist renaming length_le→ne
open List.cons renaming inj→gy, injEq→lj
open Nat renaming add_assoc→gz, add_comm→pc, add_mul→fx, add_sub_cancel→mc, add_zero→ja, div_div_eq_div_mul→nd, div_le_self→ln, div_lt_iff_lt_mul→fu, eq_zero_or_pos→d7, le_div_iff_mul_le→jy, le_refl→be, le_trans→dy, lt_of_le_of_lt→jr, lt_of_lt_of_le→en, lt_or_ge→dq, lt_trans→o6, min_eq_left→f3, mod_eq_of_lt→kh, mul_le_mul_right→cr, mul_one→nx, pow_add→n5, pow_le_pow_right→kb, pow_pos→mi, pow_succ→gm, sub_self→jq, two_pow_add_eq_or_of_lt→j3, zero_add→da, zero_le→ib, zero_mul→jb
open Ne renaming symm→jz
open Option renaming bind_eq_some_iff→ab, bind_some→aa, getD_some→iq, map_eq_some_iff→aj, map_none→df, map_some→an
open Option.some renaming inj→bf, injEq→ae
open Sum renaming elim→a8, elim_inl→fj, elim_inr→pa
open T renaming arr→ak, b→di, sl→bq, u16→dr, u8→a7
open UInt16 renaming ofNat→bw, toNat_ofNat'→gn
open UInt32 renaming ofNat→pb
open UInt64 renaming ofNat→ei, toNat_ofNat→o3, toNat_ofNat'→io
open UInt8 renaming ofNat→bc, toNat_inj→ef, toNat_ofNat'→fk
open Utf8 renaming decode→gg
section
set_option maxRecDepth 100000
set_option maxHeartbeats 4000000
noncomputable def MM(a0:AG)(a1:Al)(a2:Al):Option Bool:=(HD (decide (9000<(a0.length:Int))) ((Uq a1).bind fun x4=>some x4)).bind fun x5=>(HD x5 ((Uq a2).bind fun x7=>some x7)).bind fun x8=>if x8=true then (Gw ()).bind fun x9=>some x9 else (Ln (GS.mk [a1,a2])).bind fun x13=>(E1 a1).bind fun x17=>(Bw x17 ((E1 a2).bind fun x19=>some x19)).bind fun x20=>(if x20=true then (Lw a1).bind fun x83=>(if x83.length+[10].length≤2*Bs then some (x83++[10])else none).bind fun x84=>(Lw a2).bind fun x86=>(if x84.length+x86.length≤2*Bs then some (x84++x86)else none).bind fun x87=>(if x87.length+[10].length≤2*Bs then some (x87++[10])else none).bind fun x88=>(HD (!decide (x13.1=x88)) (some (!decide (x13.2=0)))).bind fun x91=>if x91=true then (some false).map fun r=> .inr r else some (.inl ()) else (HD (!decide (x13.1=[])) (some (!decide (x13.2=1)))).bind fun x94=>if x94=true then (some false).map fun r=> .inr r else some (.inl ()):Option (Unit⊕_)).bind (a8 (fun(p21:Unit)=>(IZ a0).bind fun x23=>(Bw (decide (0<(a0.length:Int))) ((Dj a0 (ql qm ((a0.length:Int)-1))).bind fun x31=>let x32:= !decide ((x31.toNat:Int)=((10:UInt8).toNat:Int));some x32)).bind fun x33=>if x33=true then (Bw (decide ((x23.1.l.length:Int)=0)) (some (decide (x23.2.1=0)))).bind fun x37=>(Bw x37 (some (decide (x23.2.2=5)))).bind fun x39=>(Bw x39 ((Gw ()).bind fun x40=>some x40)).bind fun x41=>some x41 else (KA a0).bind fun x42=>(iter (fun(s43:Int)=>if(decide (s43<(x42.l.length:Int)))=true then (Dj x42.l s43).bind fun x47=>
 (K9 x47).bind fun x49=>if(!decide (x49.2=0))=true then (Bw (decide ((x23.1.l.length:Int)=0)) (some (decide (x23.2.1=ql qm (s43+1))))).bind fun x59=>(Bw x59 (some (decide (x23.2.2=x49.2)))).bind fun x61=>(Bw x61 ((Gw ()).bind fun x62=>some x62)).bind fun x63=>(some x63).map fun r=> .inr (.inr r) else some (.inl (ql qm (s43+1))) else some (.inr (.inl ()))) 0).bind (a8 (fun(p44:Unit)=>let x67:=decide ((x23.1.l.length:Int)=(x42.l.length:Int));(Bw x67 (some (decide (x23.2.1=0)))).bind fun x69=>(Bw x69 (some (decide (x23.2.2=0)))).bind fun x71=>(Bw x71 ((ES a1 a2).bind fun x74=>(MI a1 a2).bind fun x77=>some (decide (x74=x77)))).bind fun x79=>(Bw x79 ((Gw ()).bind fun x80=>some x80)).bind fun x81=>some x81) some)) some)
noncomputable def SY(a:Cl [Ak,Ae,Ae]):BD tb KK [Ak,Ae,Ae] [di] a:=Af<|Aj (Er (t:=Ae) 4 r_ r_ Ah) fun _=>Aj (Er (t:=Ae) 5 r_ r_ Ah) fun _=>Ad (Ap Dy)<|Ag<|Af<|Ab r_<|Ai (Ck Ah) fun x1=>Ai (At r_ Ah AA) fun x2=>Ab r_<|jn 2 r_ r_ r_ (BB (AF (t:=Ae) (u:=Ae) Ah r_ r_ (Ao _) r_ r_) fun x3=>ga (A7 Wv (.one Ah)) fun x4=>cf Ah) fun x5=>Ab r_<|jn 2 r_ r_ r_ (BB (AF (t:=Ae) (u:=Ae) Ah r_ r_ (Ao _) r_ r_) fun x6=>ga (A7 Wv (.one Ah)) fun x7=>cf Ah) fun x8=>Ac<|al Ah (Af<|am (A7 Mf (.nil)) fun x9=>Ab r_<|Ac<|az (.one (Ax r_))) (ap<|Ag<|An (AF (t:=Ae) (u:=Ae) Ah r_ r_ (Ao _) r_ r_) fun x10=>An (AF (t:=Ae) (u:=Ae) Ah r_ r_ (Ao _) r_ r_) fun x11=>Ai (Hh (t:=Ae) (n:=2) r_ r_ (.cons r_ Ah<| .cons r_ Ah<| .nil _)) fun x12=>am (Bn Yr (.one Ah)) fun x13=>Ab r_<|An (AY Ah r_) fun x14=>An (AY Ah r_) fun x15=>Ab r_<|Ab r_<|Ag<|Af<|An (AF (t:=Ae) (u:=Ae) Ah r_ r_ (Ao _) r_ r_) fun x16=>am (A7 TN (.one Ah)) fun x17=>Ab r_<|dm 2 r_ r_ r_ (BB (AF (t:=Ae) (u:=Ae) Ah r_ r_ (Ao _) r_ r_) fun x18=>ga (A7 TN (.one Ah)) fun x19=>cf Ah) fun x20=>Ac<|E5 (τ:=Unit) (fun p21=>⟨[(0, .val Ak a.1),(4, .cp 4 0),(5, .cp 5 0)],[(4, .cells [(53, .val Ae a.2.1)]),(5, .cells [(53, .val Ae a.2.2)])]⟩) (fun p21=>Ag<|Ab r_<|am (Bn aZ (.one Ah)) fun x23=>Ab r_<|An (AY Ah r_) fun x24=>An (AY Ah r_) fun x25=>An (AY Ah r_) fun x26=>Ab r_<|Ab r_<|Ab r_<|Ag<|Af<|Ab r_<|Ai (Ck Ah) fun x27=>Ai (At r_ Ah AA) fun x28=>Ab r_<|dm 6 r_ r_ r_ (AE (Ap (BT r_))<|AE (Ap (BT r_))<|AL (Ck Ah) fun x29=>
 AL (DL (I:=qk) Ah AA) fun x30=>ga (D8 Ah Ah) fun x31=>AL (Eg (I:=d3) r_ Ah (Jj 10 r_)) fun x32=>cf Ah) fun x33=>Ac<|al Ah (Af<|Ab r_<|Ai (C5 Ah) fun x34=>Ai (At r_ Ah AA) fun x35=>Ab r_<|dm 2 r_ r_ r_ (AE (Ap (BT r_))<|AL (At r_ Ah AA) fun x36=>cf Ah) fun x37=>Ab r_<|dm 2 r_ r_ r_ (AE (Ap (BT r_))<|AL (At r_ Ah AA) fun x38=>cf Ah) fun x39=>Ab r_<|dm 1 r_ r_ r_ (ga (A7 Mf (.nil)) fun x40=>cf Ah) fun x41=>Ab r_<|Ac<|az (.one (Ax r_))) (ap<|Ag<|Ab r_<|am (A7 gU (.one Ah)) fun x42=>Ab r_<|Ag<|Af<|Ad (Ap AA)<|Ac<|Av<|dj (id:=0) (σ:=Int) (τ:=Unit) (fun s43=>⟨[(4, .cp 4 0),(5, .cp 5 0),(9, .val (bq Ae) x24),(10, .val qj x25),(11, .val qj x26),(12, .val (bq Ak) x42),(13, .val qj s43)],[(4, .cells [(53, .val Ae a.2.1)]),(5, .cells [(53, .val Ae a.2.2)])]⟩) (fun p44=>⟨[(4, .cp 4 0),(5, .cp 5 0),(9, .val (bq Ae) x24),(10, .val qj x25),(11, .val qj x26),(12, .val (bq Ak) x42)],[(4, .cells [(53, .val Ae a.2.1)]),(5, .cells [(53, .val Ae a.2.2)])]⟩) 0 sB (fun _=>r_) (fun s43=>Af<|Af<|Ab r_<|Ab r_<|Ai (C5 Ah) fun x45=>Ai (At r_ Ah Ah) fun x46=>Ac<|al Ah (ap<|Ag<|Av<|Af<|Ab r_<|Ab r_<|am (Ef r_ Ah Ah) fun x47=>An (Gz r_ r_ Ah) fun x48=>am (Bn gL (.one Ah)) fun x49=>Ab r_<|An (AY Ah r_) fun x50=>An (AY Ah r_) fun x51=>Aj (B3 (t:=Ae) 14 r_ r_) fun x52=>Aj (AT Ah Ah r_ r_ (Ao _) r_) fun x53=>Ab r_<|Ag<|Ab r_<|Ai (At r_ Ah AA) fun x54=>Ac<|al Ah (Af<|Ab r_<|
 Ai (C5 Ah) fun x55=>Ai (At r_ Ah AA) fun x56=>Ab r_<|dm 4 r_ r_ r_ (AE (Ap (BT r_))<|AE (Ap (BT r_))<|AL (AP (I:=qk) Ah AA) fun x57=>AL (At r_ Ah Ah) fun x58=>cf Ah) fun x59=>Ab r_<|dm 3 r_ r_ r_ (AE (Ap (BT r_))<|AE (Ap (BT r_))<|AL (At r_ Ah Ah) fun x60=>cf Ah) fun x61=>Ab r_<|dm 1 r_ r_ r_ (ga (A7 Mf (.nil)) fun x62=>cf Ah) fun x63=>Ab r_<|Ac<|B1<|az (.one (Ax r_))) (ap<|A5<|Ac<|Ab r_<|Ai (AP (I:=qk) Ah AA) fun x64=>Ab r_<|co x64 sB)) (AB<|B9 () sB)) (fun p44=>AN<|Ag<|Ab r_<|Ai (C5 Ah) fun x65=>Ab r_<|Ai (C5 Ah) fun x66=>Ai (At r_ Ah Ah) fun x67=>Ab r_<|dm 2 r_ r_ r_ (AE (Ap (BT r_))<|AL (At r_ Ah AA) fun x68=>cf Ah) fun x69=>Ab r_<|dm 2 r_ r_ r_ (AE (Ap (BT r_))<|AL (At r_ Ah AA) fun x70=>cf Ah) fun x71=>Ab r_<|dm 7 r_ r_ r_ (BB (AF (t:=Ae) (u:=Ae) Ah r_ r_ (Ao _) r_ r_) fun x72=>BB (AF (t:=Ae) (u:=Ae) Ah r_ r_ (Ao _) r_ r_) fun x73=>ga (A7 Fk (.cons Ah<| .one Ah)) fun x74=>BB (AF (t:=Ae) (u:=Ae) Ah r_ r_ (Ao _) r_ r_) fun x75=>BB (AF (t:=Ae) (u:=Ae) Ah r_ r_ (Ao _) r_ r_) fun x76=>ga (A7 Ws (.cons Ah<| .one Ah)) fun x77=>AL (h_eqb (neg:=false) Ah Ah) fun x78=>cf Ah) fun x79=>Ab r_<|dm 1 r_ r_ r_ (ga (A7 Mf (.nil)) fun x80=>cf Ah) fun x81=>Ab r_<|Ac<|az (.one (Ax r_)))))<|al Ah (Af<|Ab r_<|An (AF (t:=Ae) (u:=Ae) Ah r_ r_ (Ao _) r_ r_) fun x82=>am (A7 Wr (.one Ah)) fun x83=>am (CJ Ah Cy) fun x84=>An (AF (t:=Ae) (u:=Ae) Ah r_ r_ (Ao _) r_ r_) fun x85=>am (A7 Wr (.one Ah)) fun x86=>
 am (CJ Ah Ah) fun x87=>am (CJ Ah Cy) fun x88=>Ai (jC Ah Ah) fun x89=>Ab r_<|jn 2 r_ r_ r_ (AE (Ap (BT r_))<|AL (At r_ Ah AA) fun x90=>cf Ah) fun x91=>Ac<|al Ah (Af<|Ad (Ap Dy)<|Ac<|R6<|az (.one (Ax r_))) (ap<|D5 () sB)) (Af<|Ab r_<|Ai (jC Ah Cy) fun x92=>Ab r_<|jn 2 r_ r_ r_ (AE (Ap (BT r_))<|AL (At r_ Ah AA) fun x93=>cf Ah) fun x94=>Ac<|al Ah (Af<|Ad (Ap Dy)<|Ac<|R6<|az (.one (Ax r_))) (ap<|D5 () sB)))
theorem TR:Spec tb H6 [Ak,Ae,Ae] [di] (fun a=>MM a.1 a.2.1 a.2.2):=
 Spec.of VG r_ r_ r_ SY
end

section
theorem idxN_in{n k:Nat}(h:n<k):BU k (n:Int)=some n:=BV h
theorem scanK{β ρ:Type}{k n:Nat}{F:Int→Option (Int⊕(Unit⊕β))}{K:Unit⊕β→Option ρ}(q:Nat→Option β)(hk:k≤n)(hn:n<4611686018427387904)(h1: ∀i:Nat,k≤i→i<n→F (i:Int)=some (match q i with|none=> .inl (ql qm ((i:Int)+1))|some b=> .inr (.inr b)))
  (h2:F (n:Int)=some (.inr (.inl ()))):(iter F (k:Int)).bind K=(match(fh k (n-k)).findSome? q with|none=>K (.inl ())|some b=>K (.inr b)):=by
 refine DK (fun s=>n-s.toNat) (fun s=> ∃i:Nat,s=i∧k≤i∧i≤n∧ ∀j,k≤j→j<i→q j=none)
  (fun r=>(r= .inl ()∧ ∀j,k≤j→j<n→q j=none)∨ ∃b,r= .inr b∧(fh k (n-k)).findSome? q=some b) ⟨k,rfl,be _,hk,by omega⟩ ?_ ?_
 ·rintro s ⟨i,rfl,hki,hi,hq⟩
  rcases dq i n with hlt|hge
  ·rw[h1 i hki hlt]
   cases e:q i with
   |none=>
    left
    refine⟨_,rfl,⟨i+1,?_,by omega,by omega,fun j hj1 hj=> ?_⟩,?_⟩
    ·rw[show(i:Int)+1=((i+1:Nat):Int) by omega,Bc (by omega)]
    ·rcases dq j i with h|h
     ·exact hq j hj1 h
     ·obtain rfl:j=i:=by omega
      exact e
    ·rw[show(i:Int)+1=((i+1:Nat):Int) by omega,Bc (by omega)];omega
   |some b=>
    right
    refine⟨_,rfl, .inr ⟨b,rfl,?_⟩⟩
    have:fh k (n-k)=fh k (i-k)++i::fh (i+1) (n-(i+1)):=by
     rw[show n-k=(i-k)+(1+(n-(i+1))) by omega,←n3,←n3]
     simp only[List.range'_one,er,List.append_cancel_left_eq]
     rw[show k+(i-k)=i by omega]
    rw[this,List.findSome?_append,ka.2 (fun j hj=>by
     rw[gk]at hj;exact hq j hj.1 (by omega))]
    simp[e]
  ·obtain rfl:i=n:=by omega
   right
   exact⟨_,h2, .inl ⟨rfl,hq⟩⟩
 ·rintro _ (⟨rfl,h⟩|⟨b,rfl,h⟩)
  ·rw[ka.2 (fun j hj=>by rw[gk]at hj;exact h j hj.1 (by omega))]
  ·rw[h]
theorem cmpA(x y:AX):dA PQ x y=decide (x=y):=
 if h:x=y then(ZT (t:=Aw) h).trans (qq h).symm else(kG (t:=Aw) h).trans (qr h).symm
theorem cmpE(x y:AI):dA HZ x y=decide (x=y):=
 if h:x=y then(ZT (t:=Aq) h).trans (qq h).symm else(kG (t:=Aq) h).trans (qr h).symm
def Gc(a:AX):Bool:=decide (a.V=6∨(a.V=4∧a.B.l.drop 4=aq 12 0))
theorem four_val(b0 b1 b2 b3:UInt8)(h:[b0,b1,b2,b3].length=4):KT ⟨[b0,b1,b2,b3],h⟩=some ⟨4,⟨[b0,b1,b2,b3,0,0,0,0,0,0,0,0,0,0,0,0],rfl⟩⟩:=by
 unfold KT
 rfl
theorem zC(b0 b1 b2 b3 b4 b5 b6 b7 b8 b9 b10 b11 b12 b13 b14 b15:UInt8)(h:(([b0,b1,b2,b3,b4,b5,b6,b7,b8,b9,b10,b11,b12,b13,b14,b15].drop 0).take 4).length=4):
  KT ⟨([b0,b1,b2,b3,b4,b5,b6,b7,b8,b9,b10,b11,b12,b13,b14,b15].drop 0).take 4,h⟩=some ⟨4,⟨[b0,b1,b2,b3,0,0,0,0,0,0,0,0,0,0,0,0],rfl⟩⟩:=four_val b0 b1 b2 b3 rfl
theorem bytes16{p:AX→Prop}(h: ∀(V:Int) (b0 b1 b2 b3 b4 b5 b6 b7 b8 b9 b10 b11 b12 b13 b14 b15:UInt8),p ⟨V,⟨[b0,b1,b2,b3,b4,b5,b6,b7,b8,b9,b10,b11,b12,b13,b14,b15],rfl⟩⟩): ∀a,p a:=by
 rintro⟨V,⟨l,hl⟩⟩
 match l,hl with
 |[b0,b1,b2,b3,b4,b5,b6,b7,b8,b9,b10,b11,b12,b13,b14,b15],_=>exact h V b0 b1 b2 b3 b4 b5 b6 b7 b8 b9 b10 b11 b12 b13 b14 b15
theorem TJ(a:AX):KS a=some (Gc a):=by
 revert a
 refine bytes16 fun V b0 b1 b2 b3 b4 b5 b6 b7 b8 b9 b10 b11 b12 b13 b14 b15=> ?_
 unfold KS
 by_cases h6:V=6
 ·simp[h6,HD,Gc]
 ·by_cases hv:V=4
  ·subst hv
   have e4:((4:Int)=6)=False:=by simp
   simp only[HD,Bw,e4,decide_false,au,qu,decide_true,qt,zC,aa,cmpA,Gc]
   congr 1
   simp[AX.mk.injEq,Ar.mk.injEq,aq]
  ·simp[h6,hv,HD,Bw,Gc]
theorem get16(B:Ar UInt8 16){i:Nat}(h:i<16): ∃b,B.l[i]? =some b:=⟨B.l[i]'(by rw[B.len];exact h),ad _⟩
theorem dZ(a:AX):Ov a=some (Gc a):=by
 unfold Ov
 by_cases h6:a.V=6
 ·simp[h6,Gc]
 ·rw[qo (by simpa using h6)]
  rw[show(4:Int)=((4:Nat):Int)from rfl,scanK (n:=16) (fun i=>if a.B.l[i]? =some 0 then none else some false) (by decide) (by decide)]
  ·cases e:(fh 4 (16-4)).findSome? (fun i=>if a.B.l[i]? =some 0 then none else some false)with
   |none=>
    simp only[fj]
    have hz:a.B.l.drop 4=aq 12 0:=by
     apply ii
     intro i
     rw[eo]
     rcases dq i 12 with hi|hi
     ·have:=ka.1 e (4+i) (by rw[gk];omega)
      rw[m5,qn hi]
      by_cases h:a.B.l[4+i]? =some 0
      ·exact h
      ·simp[h]at this
     ·rw[f9 (by rw[a.B.len];omega),f9 (by simp;omega)]
    simp[Gc,h6,hz]
   |some b=>
    obtain⟨i,hi,h'⟩:=List.exists_of_findSome?_eq_some e
    rw[gk]at hi
    have hb:b=false:=by split at h'<;>simp_all
    subst hb
    simp only[pa]
    have: ¬a.B.l.drop 4=aq 12 0:=fun hz=>by
     have h:=qv (fun l=>l[i-4]?) hz
     simp only[eo,m5]at h
     rw[show 4+(i-4)=i by omega,qn (by omega)]at h
     rw[h]at h';simp at h'
    have hr:Gc a=false:=qr (by
     rintro(h|⟨_,h⟩)
     ·exact h6 h
     ·exact this h)
    rw[hr]
  ·intro i h4 hi
   obtain⟨b,hb⟩:=get16 a.B hi
   rw[qn (by simp;omega),idxN_in hi,aa,hb]
   simp only[aa,ae]
   have e0:((b.toNat:Int)=((0:UInt8).toNat:Int))↔b=0:=by
    constructor
    ·intro h;exact ef.1 (by exact_mod_cast h)
    ·rintro rfl;rfl
   by_cases h:b=0
   ·simp[h]
   ·simp only[e0,h,decide_false,Bool.not_false,qt,qu];rfl
  ·rw[qo (by decide)]
def gC(a:AX):Nat:=if Gc a=true then(if a.V=4 then 32 else 128)else 0
theorem uE(a:AX):PM a=some (gC a:Int):=by
 unfold PM gC
 rw[TJ]
 cases Gc a with
 |false=>simp
 |true=>by_cases h:a.V=4<;>simp[h]
theorem mS(b:UInt8):bc b.toNat=b:=by simp
theorem u64N{m:Nat}(h:m<18446744073709551616):(Cw (m:Int)).toNat=m:=by
 unfold Cw
 rw[show((m:Int)%18446744073709551616).toNat=m by omega]
 simp[o3,h]
def Ji(e:AI):Bool:=Gc e.A&&(decide (1≤e.Port)&&decide (e.Port≤65535))
theorem Tk(e:AI):Gy e=some (Ji e):=by
 unfold Gy Ji
 rw[TJ]
 cases Gc e.A<;>by_cases h1:1≤e.Port<;>simp[Bw,h1]
theorem Vu(e:AI):Ot e=some (Ji e):=by
 unfold Ot Ji
 rw[dZ]
 cases Gc e.A<;>by_cases h1:1≤e.Port<;>simp[Bw,h1]
end
section
theorem SC(l:AG)(c:UInt8):H3 l c=some (O9 l c):=rfl
theorem XZ(l:AG)(c:UInt8)(hl:l.length<1099511627776):((∀x∈l,x≠c)∧FJ l c=some (l,[],false))∨ ∃p q,l=p++c::q∧(∀x∈p,x≠c)∧FJ l c=some (p,q,true):=by
 rcases L9 l c with ⟨h,e⟩|⟨p,q,rfl,h,e⟩
 ·left
  exact⟨h,by simp[FJ,SC,e]⟩
 ·right
  refine⟨p,q,rfl,h,?_⟩
  have hlen:(p++c::q).length=p.length+(q.length+1):=by simp
  simp only[FJ,SC,e,aa]
  rw[qo (by simp),Np (by omega),show(p.length:Int)+1=((p.length+1:Nat):Int) by omega,Bc (by omega),FH (by omega)]
  simp[kf]
theorem eG(l:AG)(c:UInt8)(hl:l.length<1073741824):Jt l c=some (.mk (AK c l)):=by
 unfold Jt
 rw[iter_val (b:= .inr (.mk (AK c l))) (fun s=>s.1.length) (fun s=>s.2.l++AK c s.1=AK c l∧s.1.length+s.2.l.length≤l.length)]
 ·rfl
 ·rintro⟨s,g⟩ ⟨h1,h2⟩
  dsimp only at h1 h2 ⊢
  have hap: ∀x,M7 16 g [x]=some (.mk (g.l++[x])):=fun x=>PK (by unfold Bs;omega)
  rcases XZ s c (by omega)with ⟨hn,e⟩|⟨p,q,rfl,hn,e⟩
  ·right
   simp only[e,aa,hap]
   rw[G8 hn]at h1
   simp[h1]
  ·left
   refine⟨(q, .mk (g.l++[p])),?_,?_,?_⟩
   ·simp only[e,aa,hap];simp
   ·rw[Gb hn]at h1
    simp only[aw,bb]at h2
    refine⟨by simpa using h1,?_⟩
    simp only[Es,aw,bb,bz];omega
   ·simp;omega
 ·exact⟨by simp,by simp⟩
theorem Gd(l:AG)(c:UInt8)(hl:l.length<1073741824):FI l c=some (.mk (AK c l)):=by
 unfold FI
 refine DK (fun s=>l.length-s.2.1.toNat)
  (fun s=> ∃b j:Nat,s.1=b∧s.2.1=j∧b≤j∧j≤l.length∧(∀x∈(l.take j).drop b,x≠c)∧s.2.2.l.length≤b∧s.2.2.l++AK c (l.drop b)=AK c l)
  (fun r=> ∃b:Nat,∃g,r= .inl ((b:Int),g)∧b≤l.length∧g.l.length≤b∧g.l++[l.drop b]=AK c l) ⟨0,0,rfl,rfl,by omega,by omega,by simp,by simp,by simp⟩ ?_ ?_
 rotate_left
 ·rintro _ ⟨b,g,rfl,h1,h2,h3⟩
  simp only[aa,fj,FH h1]
  rw[PK (by unfold Bs;omega),h3,aa]
 ·rintro⟨b',j',g⟩ ⟨b,j,rfl,rfl,h1,h2,h3,h4,h5⟩
  dsimp only at h4 h5 ⊢
  have hsplit:l.drop b=(l.take j).drop b++l.drop j:=by
   rw[←dn (by simp;omega),fq]
  by_cases hj:j<l.length
  ·rw[qn (by simpa using hj),B5,ad hj]
   simp only[aa]
   have hdj:l.drop j=l[j]::l.drop (j+1):=bk hj
   rw[show(j:Int)+1=((j+1:Nat):Int) by omega,Bc (by omega)]
   left
   by_cases hx:l[j]=c
   ·rw[qn (by simp[hx]),subL_mid h1 (by omega)]
    simp only[aa]
    rw[PK (by unfold Bs;omega)]
    refine⟨_,rfl,⟨j+1,j+1,rfl,rfl,by omega,by omega,by simp,?_,?_⟩,by dsimp only;omega⟩
    ·simp only[Es,aw,bb,bz];omega
    ·rw[hsplit,hdj,hx,Gb h3]at h5
     simpa using h5
   ·rw[qo (by simp only[qp];exact fun e=>hx (ef.1 (by omega)))]
    refine⟨_,rfl,⟨b,j+1,rfl,rfl,by omega,by omega,?_,h4,h5⟩,by dsimp only;omega⟩
    intro x hxm
    rw[bd hj,dn (by simp;omega)]at hxm
    rcases go.1 hxm with h|h
    ·exact h3 x h
    ·rw[gf.1 h];exact hx
  ·rw[qo (by simpa using hj)]
   right
   refine⟨_,rfl,b,g,rfl,by omega,h4,?_⟩
   have:l.drop j=[]:=jp (by omega)
   rw[this,dv]at hsplit
   rw[hsplit,G8 h3]at h5
   rw[hsplit];exact h5
theorem Zv(c:UInt8): ∀l:AG,Lib.index l [c]=O9 l c
 |[]=>rfl
 |x::l=>by
  have ih:=Zv c l
  have hg:=Lib.index_ge l [c]
  unfold Lib.index
  by_cases h:x=c
  ·subst h
   simp[O9,mb,i']
  ·have h': ¬c=x:=fun e=>h e.symm
   rw[qo (by simp[i',h'])]
   rw[ih]
   unfold O9
   rw[mb]
   have hx:(x==c)=false:=by simpa using h
   rw[hx]
   cases e:l.findIdx? (fun y=>y==c)with
   |none=>simp
   |some i=>
    simp only[an,au,qu]
    rw[qo (by simp)]
    simp
theorem eU(l:AG)(c:UInt8)(hl:l.length<1073741824):Hp l [c]=some (O9 l c):=by
 unfold Hp
 have:Cp l [c]=some (O9 l c):=by
  unfold Cp indexS
  rw[qn (by omega),Zv]
 rw[this];rfl
theorem dR(l:AG)(c:UInt8)(hl:l.length<1073741824):KV l [c]=some (.mk (AK c l)):=by
 have hle:=Vb (c:=c) l
 have hlen:=ET (c:=c) l
 unfold KV K2
 rw[qo (by simp),qo (by simp)]
 dsimp only
 rw[qn (by simp)]
 have hcount:KW l [c]=some (((AK c l).length:Int)-1):=by
  simp[KW,Dj,EU,tP,hlen]
 simp only[hcount,aa]
 rw[show((AK c l).length:Int)-1+1=(AK c l).length by omega,Bc (by omega),show(l.length:Int)+1=((l.length+1:Nat):Int) by omega,Bc (by omega),qo (by omega)]
 have hmk:mkG ([]:AG) 16 ((AK c l).length:Int) ((AK c l).length:Int)=some (.mk (aq (AK c l).length [])):=by
  unfold mkG
  rw[qn (by unfold Bs;omega)]
  simp
 simp only[hmk,aa,Int.add_zero]
 rw[show((AK c l).length:Int)-1=(((AK c l).length-1:Nat):Int) by omega,Bc (by omega)]
 rw[DK (r:=some (.mk (AK c l))) (fun s=>s.1.length) (fun s=> ∃d:List AG,s.2.1=(d.length:Int)∧AK c l=d++AK c s.1∧s.2.2= .mk (d++aq (AK c s.1).length [])∧s.1.length≤l.length)
  (fun r=> ∃s:AG,∃d:List AG,r= .inl (s,(d.length:Int), .mk (d++[[]]))∧AK c l=d++[s]) ⟨[],rfl,rfl,rfl,be _⟩]
 ·rfl
 ·rintro⟨s,i,g⟩ ⟨d,rfl,h1,hg,h3⟩
  dsimp only at h1 hg h3 ⊢
  subst hg
  have hL:(AK c l).length=d.length+(AK c s).length:=by rw[h1,aw]
  rcases L9 s c with ⟨hn,e⟩|⟨p,q,rfl,hn,e⟩
  ·right
   rw[G8 hn]at h1 hL ⊢
   rw[qo (by simp at hL ⊢;omega)]
   exact⟨_,rfl,s,d,rfl,h1⟩
  ·left
   have hq:=lr.2 (C6 (c:=c) q)
   rw[Gb hn]at h1 hL ⊢
   have hpl:(p++c::q).length=p.length+(q.length+1):=by simp
   rw[qn (by simp at hL ⊢;omega)]
   rw[eU _ _ (by omega)]
   simp only[e,aa]
   rw[qo (by simp),Bc (by omega),Np (by omega)]
   simp only[aa,bb,bz,da,jg,Es]
   rw[BV (by simp)]
   simp only[aa,get_at,an,GS.set,set_at]
   rw[show(p.length:Int)+(1:Nat)=((p.length+1:Nat):Int) by omega,Bc (by omega),FH (by omega),drop_at,take_at]
   simp only[aa]
   rw[show((d.length:Nat):Int)+1=((d.length+1:Nat):Int) by omega,Bc (by omega)]
   refine⟨_,rfl,⟨d++[p],by simp,by rw[h1];simp,by simp,?_⟩,?_⟩
   ·dsimp only;omega
   ·dsimp only;omega
 ·rintro _ ⟨s,d,rfl,h⟩
  have hd:d.length+1≤l.length+1:=by have:=qv f8 h;simp at this;omega
  simp only[fj,Es]
  rw[BV (by simp)]
  simp only[aa,get_at,an,GS.set,set_at]
  rw[show((d.length:Nat):Int)+1=((d.length+1:Nat):Int) by omega,Bc (by omega),slG_to (by simp)]
  rw[h]
  simp[av]
theorem QM(l:AG)(c:UInt8)(hl:l.length<4611686018427387904):((∃m,l=m++[c])∧Bq l [c]=some true)∨((∀m,l≠m++[c])∧Bq l [c]=some false):=by
 rcases nn l with rfl|⟨m,x,e⟩
 ·right;exact⟨fun m=>by simp,by simp[Bq,Bw]⟩
 ·rw[nq]at e
  subst e
  have hh:Bq (m++[x]) [c]=some (decide (x=c)):=by
   simp only[aw,bb,bz]at hl
   simp only[Bq,Bw,aw,bb,bz]
   rw[qn (by simp;omega),show((m.length+(0+1):Nat):Int)-((0+1:Nat):Int)=(m.length:Nat) by omega,Bc (by omega),FH (by simp)]
   simp
  rw[hh]
  by_cases hx:x=c
  ·subst hx;exact .inl ⟨⟨m,rfl⟩,by simp⟩
  ·exact .inr ⟨fun m' e=>hx (by simpa using (nc e rfl)),by simp[hx]⟩
theorem Yn(l:AG)(c:UInt8)(hl:l.length<4611686018427387904):((∃m,l=m++[c])∧EP l [c]=some true)∨((∀m,l≠m++[c])∧EP l [c]=some false):=by
 rcases QM l c hl with ⟨h1,h2⟩|⟨h1,h2⟩
 ·exact .inl ⟨h1,by simp[EP,h2]⟩
 ·exact .inr ⟨h1,by simp[EP,h2]⟩
theorem Yj(m:AG)(c:UInt8)(hl:m.length<4611686018427387903):E0 (m++[c]) [c]=some m:=by
 have h:Bq (m++[c]) [c]=some true:=((QM (m++[c]) c (by simp;omega)).resolve_right fun h=>h.1 m rfl).2
 simp only[E0,Do,h,aa,qt,aw,bb,bz]
 rw[show((m.length+(0+1):Nat):Int)-((0+1:Nat):Int)=(m.length:Nat) by omega,Bc (by omega),Np (by simp)]
 simp
theorem Xf(l:AG)(c:UInt8)(hl:l.length<4611686018427387903)(h: ∀m,l≠m++[c]):E0 l [c]=some l:=by
 have h:Bq l [c]=some false:=((QM l c (by omega)).resolve_left fun e=>by obtain⟨⟨m,e⟩,_⟩:=e;exact h m e).2
 simp[E0,Do,h]
theorem V4(m:AG)(hl:m.length<1073741823):EC (m++[10])=some (.mk (AK 10 m)):=by
 simp only[EC]
 rw[qo (by simp)]
 simp only[Yj m 10 (by omega),dR m 10 (by omega),aa]
theorem rZ(l:AG)(hl:l.length<1073741823)(h0:l≠[])(h: ∀m,l≠m++[10]):EC l=some (.mk (AK 10 l)):=by
 simp only[EC]
 rw[qo (by simpa using h0)]
 simp only[Xf l 10 (by omega) h,dR l 10 (by omega),aa]
theorem rX(m:AG)(hl:m.length<1073741823):EB (m++[10])=some (.mk (AK 10 m),true):=by
 have h:=((Yn (m++[10]) 10 (by simp;omega)).resolve_right fun h=>h.1 m rfl).2
 simp[EB,Bw,h,V4 m hl]
theorem mZ(l:AG)(hl:l.length<1073741823)(h0:l≠[])(h: ∀m,l≠m++[10]):EB l=some (.nil,false):=by
 have h:=((Yn l 10 (by omega)).resolve_left fun e=>by obtain⟨⟨m,e⟩,_⟩:=e;exact h m e).2
 simp[EB,Bw,h,h0]
theorem rY:EB []=some (.nil,true):=by simp[EB,Bw,EC]
end
section
def blk(c:UInt8):Bool:=c==32||c==9||c==13
theorem qR(l:AG):l=[]∨ ∃m c,l=m++[c]:=by
 rcases nn l with h|⟨m,c,h⟩
 ·exact .inl h
 ·exact .inr ⟨m,c,by rw[h,nq]⟩
end
section
theorem Wp(c:UInt8): ∀l:AG,∃init last pre,AK c l=init++[last]∧l=pre++last∧c∉last∧((pre=[]∧init=[])∨ ∃m,pre=m++[c]∧init=AK c m)
 |[]=>⟨[],[],[],rfl,rfl,by simp, .inl ⟨rfl,rfl⟩⟩
 |x::l=>by
  obtain⟨init,last,pre,h1,h2,h3,h4⟩:=Wp c l
  by_cases hx:x=c
  ·subst hx
   refine⟨[]::init,last,x::pre,by simp[AK,h1],by rw[h2];rfl,h3, .inr ?_⟩
   rcases h4 with ⟨rfl,rfl⟩|⟨m,rfl,rfl⟩
   ·exact⟨[],rfl,rfl⟩
   ·exact⟨x::m,rfl,by simp[AK]⟩
  ·rcases h4 with ⟨rfl,rfl⟩|⟨m,rfl,rfl⟩
   ·refine⟨[],x::last,[],?_,by rw[h2];rfl,?_, .inl ⟨rfl,rfl⟩⟩
    ·simp only[dw]at h1
     simp[AK,hx,h1]
    ·simp only[bu,not_or];exact⟨jz hx,h3⟩
   ·have hm:=C6 (c:=c) m
    cases hs:AK c m with
    |nil=>exact absurd hs hm
    |cons h t=>
     rw[hs]at h1
     refine⟨(x::h)::t,last,x::(m++[c]),?_,by rw[h2];rfl,h3, .inr ⟨x::m,rfl,?_⟩⟩
     ·simp[AK,hx,h1]
     ·simp[AK,hx,hs]
theorem sA(s:AG)(hl:s.length<1073741823): ∃g g',EC s=some g∧KA s=some g'∧g.l=g'.l∧g.l.length≤s.length+1:=by
 obtain⟨init,last,pre,h1,h2,h3,h4⟩:=Wp 10 s
 have hle:=Vb (c:=10) s
 rw[h1,aw,gv]at hle
 have hr:KA s=if last=[]then some (.mk init)else some (.mk (init++[last])):=by
  unfold KA
  simp only[Gd s 10 (by omega),h1,aa]
  have hn:((GS.mk (init++[last])).l.length:Int)-1=(init.length:Nat):=by simp
  rw[hn,Bc (by omega)]
  have hi:Dj (GS.mk (init++[last])).l ((init.length:Nat):Int)=some last:=by
   rw[B5];simp
  rw[hi,slG_to (by simp)]
  simp only[aa,il]
  by_cases h:last=[]
  ·rw[qn h,qn (by simpa using h)]
  ·rw[qo h,qo (by simpa using h)]
 by_cases h:last=[]
 ·rw[qn h]at hr
  subst h
  rw[dv]at h2
  subst h2
  rcases h4 with ⟨rfl,rfl⟩|⟨m,rfl,rfl⟩
  ·exact⟨.nil,_,by simp[EC],hr,rfl,by simp⟩
  ·simp only[aw,bb,bz]at hl
   exact⟨_,_,V4 m (by omega),hr,rfl,by simp only[Es];omega⟩
 ·rw[qo h]at hr
  refine⟨_,_,rZ s hl ?_ ?_,hr,by rw[h1],by rw[h1];simp;omega⟩
  ·intro e
   have:=qv f8 h2
   rw[e,aw,bz]at this
   exact h (cj (by omega))
  ·intro m e
   rcases qR last with e'|⟨q,x,e'⟩
   ·exact h e'
   ·rw[e',e,←dl]at h2
    have:=nc h2 rfl
    simp only[lj,and_true]at this
    exact h3 (by rw[e',←this];simp)
end
section
theorem nT(l:AG)(k:Nat)(h:k<l.length):(⟨l.toArray⟩:ByteArray).get! k=l[k]:=by
 show l.toArray[k]! =l[k]
 rw[getElem!_pos _ _ (by simpa using h)];simp
theorem qW(l:AG)(pos:Nat)(h:pos<l.length):(l[pos].toNat<128∧GM l pos=((l[pos].toNat:Int),1))∨
  (128≤l[pos].toNat∧128≤(GM l pos).1∧1≤(GM l pos).2∧ ∀j,j<(GM l pos).2→ ∃hj:pos+j<l.length,128≤(l[pos+j]).toNat):=by
 have hsz:(⟨l.toArray⟩:ByteArray).size=l.length:=by simp[l9]
 have h0:=nT l pos h
 by_cases hb:l[pos].toNat<128
 ·left
  refine⟨hb,?_⟩
  simp only[GM,gg,ja,h0,hb,qt]
 ·right
  have hb':128≤l[pos].toNat:=by omega
  refine⟨hb',?_⟩
  have hd0: ∀j,j<1→ ∃hj:pos+j<l.length,128≤(l[pos+j]).toNat:=fun j hj=>by
   obtain rfl:j=0:=by omega
   exact⟨h,hb'⟩
  have hc: ∀k,(decide (pos+k<(⟨l.toArray⟩:ByteArray).size)&&((⟨l.toArray⟩:ByteArray).get! (pos+k)).toNat/64==2)=true→ ∃hj:pos+k<l.length,128≤(l[pos+k]).toNat:=fun k hk=>by
   simp only[af,qp,beq_iff_eq,hsz]at hk
   refine⟨hk.1,?_⟩
   have:=hk.2
   rw[nT l _ hk.1]at this
   omega
  simp only[GM,gg,ja,h0]
  rw[qo hb]
  have err:(128:Int)≤((Utf8.runeError:Nat):Int):=by simp[Utf8.runeError]
  split
  ·rename_i hx
   simp only[af]at hx
   have h1:=hc 1 (by simpa using hx.2)
   split
   ·rename_i hy
    refine⟨by simp only;omega,by simp,fun j hj=> ?_⟩
    simp only at hj
    rcases(show j=0∨j=1 by omega)with rfl|rfl
    ·exact hd0 0 (by omega)
    ·exact h1
   ·exact⟨err,by simp,hd0⟩
  ·split
   ·rename_i hx
    simp only[af]at hx
    have h1:=hc 1 (by simpa using hx.1.2)
    have h2:=hc 2 (by simpa using hx.2)
    split
    ·rename_i hy
     simp only[af,qp]at hy
     refine⟨by simp only;omega,by simp,fun j hj=> ?_⟩
     simp only at hj
     rcases(show j=0∨j=1∨j=2 by omega)with rfl|rfl|rfl
     ·exact hd0 0 (by omega)
     ·exact h1
     ·exact h2
    ·exact⟨err,by simp,hd0⟩
   ·split
    ·rename_i hx
     simp only[af]at hx
     have h1:=hc 1 (by simpa using hx.1.1.2)
     have h2:=hc 2 (by simpa using hx.1.2)
     have h3:=hc 3 (by simpa using hx.2)
     split
     ·rename_i hy
      simp only[af,qp]at hy
      refine⟨by simp only;omega,by simp,fun j hj=> ?_⟩
      simp only at hj
      rcases(show j=0∨j=1∨j=2∨j=3 by omega)with rfl|rfl|rfl|rfl
      ·exact hd0 0 (by omega)
      ·exact h1
      ·exact h2
      ·exact h3
     ·exact⟨err,by simp,hd0⟩
    ·exact⟨err,by simp,hd0⟩
def two(a b c:UInt8):Bool:=c==a||c==b
end
section
theorem cZ(l:AG)(c:UInt8)(hl:l.length<1073741824):Ia l [c]=some (decide (c∈l)):=by
 simp only[Ia,eU l c hl,aa]
 congr 1
 rw[i8]
 simp only[qp]
 rcases L9 l c with ⟨h,e⟩|⟨p,q,rfl,h,e⟩
 ·rw[e]
  exact⟨fun h=>by omega,fun hm=>absurd rfl (h c hm)⟩
 ·rw[e];simp
end
section
def UY(l:List AG):AG:=l.flatMap fun x=>x++[10]
theorem txt_cons(x:AG)(l:List AG):UY (x::l)=x++10::UY l:=by simp[UY]
theorem uU(a b:List AG):UY (a++b)=UY a++UY b:=by simp[UY]
theorem txt_one(x:AG):UY [x]=x++[10]:=by simp[UY]
theorem txt_snoc(a:List AG)(x:AG):UY (a++[x])=UY a++x++[10]:=by rw[uU,txt_one,dl]
theorem txt_take{l:List AG}{n:Nat}(h:n<l.length):UY (l.take (n+1))=UY (l.take n)++l[n]++[10]:=by
 rw[bd h,txt_snoc]
theorem txt_le(l:List AG)(n:Nat):(UY (l.take n)).length≤(UY l).length:=by
 have:=qv f8 (uU (l.take n) (l.drop n))
 rw[fq,aw]at this
 omega
theorem len_txt(l:List AG):l.length≤(UY l).length:=by
 induction l with
 |nil=>simp
 |cons x l ih=>rw[txt_cons,aw,bb,bb];omega
theorem join_val(g:GS AG)(h:(UY g.l).length≤Bs):ML g=some (UY g.l):=by
 have hl:=len_txt g.l
 unfold Bs at h
 unfold ML
 refine DK (fun s=>g.l.length-s.1.toNat) (fun s=> ∃n:Nat,s.1=n∧n≤g.l.length∧s.2=UY (g.l.take n)) (fun r=>r= .inl (UY g.l)) ⟨0,rfl,by omega,by simp[UY]⟩ ?_ ?_
 rotate_left
 ·rintro _ rfl
  simp only[fj,kQ]
  rw[qn ⟨by unfold Bs;exact h,fun e=>by cases e⟩];rfl
 ·rintro⟨s,b⟩ ⟨n,rfl,h1,h2⟩
  dsimp only at h2 ⊢
  subst h2
  by_cases hn:n<g.l.length
  ·have h3:=txt_take hn
   have h4:=txt_le g.l (n+1)
   rw[h3]at h4
   simp only[aw,bb,bz]at h4
   rw[qn (by simpa using hn),B5,ad hn]
   left
   refine⟨((n:Int)+1,UY (g.l.take (n+1))),?_,⟨n+1,by simp,by omega,rfl⟩,by dsimp only;omega⟩
   simp only[aa,Nm]
   rw[qn (by unfold Bs;omega)]
   simp only[aa]
   rw[qn (by unfold Bs;simp;omega),aa,←h3,show(n:Int)+1=((n+1:Nat):Int) by omega,Bc (by omega)]
  ·right
   rw[qo (by simpa using hn)]
   exact⟨_,rfl,by rw[av (by omega)]⟩
end
section
end
section
def ND:Nat→Nat→AG
 |0,_=>[]
 |k+1,n=>if n<10 then [bc (48+n)]else ND k (n/10)++[bc (48+n%10)]
def J4(n:Nat):AG:=ND 20 n
theorem ZN: ∀(k n:Nat),n<10^(k+1)→ND (k+2) n=ND (k+1) n
 |0,n,h=>by
  have h:n<10:=by simpa using h
  simp[ND,h]
 |k+1,n,h=>by
  by_cases hn:n<10
  ·simp[ND,hn]
  ·have hd:n/10<10^(k+1):=by
    rw[fu (by decide),←gm];exact h
   have ih:=ZN k (n/10) hd
   rw[ND,qo hn,ih]
   conv=>rhs;rw[ND,qo hn]
theorem wH{n:Nat}(h:n<18446744073709551616):J4 n=if n<10 then [bc (48+n)]else J4 (n/10)++[bc (48+n%10)]:=by
 unfold J4
 rw[ZN 18 (n/10) (by omega)]
 rfl
theorem fL: ∀(k n:Nat),(ND k n).length≤k
 |0,_=>by simp[ND]
 |k+1,n=>by
  rw[ND]
  split
  ·simp
  ·simp[fL k]
theorem Kg(n:Nat):(J4 n).length≤20:=fL 20 n
theorem gF{m:Nat}(h:m<18446744073709551616):(cz.ofI (m:Int)).toNat=m:=by
 show(ei ((m:Int)%18446744073709551616).toNat).toNat=m
 rw[show((m:Int)%18446744073709551616).toNat=m by omega]
 simp[o3,h]
theorem u8_of{m:Nat}(h:m<256):d3.ofI (m:Int)=bc m:=by
 show bc ((m:Int)%256).toNat=_
 rw[show((m:Int)%256).toNat=m by omega]
theorem r03_r: ∀(k:Nat) (a:UInt64),(E2 k a=none∨E2 k a=some (J4 a.toNat))∧(a.toNat<10^(k+1)→E2 (k+1) a=some (J4 a.toNat)):=by
 have step: ∀(k:Nat) (a:UInt64),E2 (k+1) a=if a.toNat<10 then some (J4 a.toNat)else(E2 k (cz.ofI ((a.toNat/10:Nat):Int))).bind fun x=>if x.length+1≤2*Bs then some (x++[bc (48+a.toNat%10)])else none:=by
  intro k a
  have ha:=a.toNat_lt
  have e10:((10:UInt64).toNat:Int)=((10:Nat):Int):=rfl
  have e48:((48:UInt64).toNat:Int)=((48:Nat):Int):=rfl
  have hm:(cz.ofI (gj (a.toNat:Int) ((10:Nat):Int))).toNat=a.toNat%10:=by
   rw[←k5,gF (by omega)]
  have h48:(cz.ofI (((48:Nat):Int)+((a.toNat%10:Nat):Int))).toNat=48+a.toNat%10:=by
   rw[show(((48:Nat):Int)+((a.toNat%10:Nat):Int))=((48+a.toNat%10:Nat):Int) by omega,gF (by omega)]
  rw[E2,e10,qo (by decide),aa]
  simp only[e48,hm,h48]
  rw[u8_of (by omega)]
  by_cases hl:a.toNat<10
  ·rw[qn (by rw[qp];omega),qn hl,wH (by omega),qn hl,show 48+a.toNat%10=48+a.toNat by omega]
  ·rw[qo (by rw[qp];omega),qo hl,qo (by decide),aa,←iw]
   cases E2 k (cz.ofI ((a.toNat/10:Nat):Int))with
   |none=>rfl
   |some x=>simp[aa]
 have fin: ∀(k:Nat) (a:UInt64),¬a.toNat<10→E2 k (cz.ofI ((a.toNat/10:Nat):Int))=some (J4 (cz.ofI ((a.toNat/10:Nat):Int)).toNat)→E2 (k+1) a=some (J4 a.toNat):=by
  intro k a hl e
  have ha:=a.toNat_lt
  rw[step,qo hl,e,gF (by omega),aa,qn (by have:=Kg (a.toNat/10);unfold Bs;omega)]
  conv=>rhs;rw[wH (by omega),qo hl]
 intro k
 induction k with
 |zero=>
  intro a
  refine⟨.inl rfl,fun h=> ?_⟩
  rw[step,qn (by simpa using h)]
 |succ k ih=>
  intro a
  have ha:=a.toNat_lt
  refine⟨?_,fun h=> ?_⟩
  ·by_cases hl:a.toNat<10
   ·right;rw[step,qn hl]
   ·rcases(ih (cz.ofI ((a.toNat/10:Nat):Int))).1 with e|e
    ·left;rw[step,qo hl,e];rfl
    ·right;exact fin k a hl e
  ·by_cases hl:a.toNat<10
   ·rw[step,qn hl]
   ·refine fin (k+1) a hl ((ih _).2 ?_)
    rw[gF (by omega),fu (by decide),←gm]
    exact h
theorem iP(a:UInt64):JB a=some (J4 a.toNat):=
 nW (fun n=>(r03_r n a).1) ((r03_r 19 a).2 (by have:=a.toNat_lt;omega))
def O6{α:Type}:List α→GS α
 |[]=> .nil
 |x::l=> .mk (x::l)
theorem L1{α:Type}: ∀l:List α,(O6 l).l=l
 |[]=>rfl
 |_::_=>rfl
theorem Z1{α:Type}: ∀(l:List α) (x:α),O6 (l++[x])= .mk (l++[x])
 |[],_=>rfl
 |_::_,_=>rfl
end
section
def pad:Nat→Nat→AG
 |0,_=>[]
 |w+1,n=>pad w (n/10)++[bc (48+n%10)]
theorem pD: ∀(N k n:Nat),N<k→n<10^(N+1)→(N=0∨10^N≤n)→ND k n=pad (N+1) n
 |0,k+1,n,_,h,_=>by
  have hn:n<10:=by simpa using h
  rw[ND,qn hn]
  simp[pad,kh hn]
 |N+1,k+1,n,hk,h,h'=>by
  have h1:10^(N+1)≤n:=h'.resolve_left (by omega)
  have h10:10≤n:=dy (by rw[gm];have:=mi (n:=N) (show 0<10 by decide);omega) h1
  rw[ND,qo (by omega),pD N k (n/10) (by omega) ((fu (by decide)).2 (by rw[←gm];exact h)) (.inr ((jy (by decide)).2 (by rw[←gm];exact h1)))]
  rfl
theorem Gr{m:Nat}(h:m<18446744073709551616):(Cw (m:Int)).toNat=m:=u64N h
theorem OL{m:Nat}(h:m<4294967296):(DE (m:Int)).toNat=m:=by
 show(pb ((m:Int)%4294967296).toNat).toNat=m
 rw[show((m:Int)%4294967296).toNat=m by omega]
 simp[UInt32.toNat_ofNat,h]
theorem mod64(x c:UInt64)(hc:0<c.toNat): ∃y:UInt64,(if(c.toNat:Int)=0 then none else some (Cw (gj (x.toNat:Int) (c.toNat:Int))))=some y∧y.toNat=x.toNat%c.toNat:=
 ⟨_,qo (by omega),by rw[←k5,Gr (by have:=x.toNat_lt;have:=Nat.mod_le x.toNat c.toNat;omega)]⟩
theorem div64(x c:UInt64)(hc:0<c.toNat): ∃y:UInt64,(if(c.toNat:Int)=0 then none else some (Cw (gc (x.toNat:Int) (c.toNat:Int))))=some y∧y.toNat=x.toNat/c.toNat:=
 ⟨_,qo (by omega),by rw[←iw,Gr (by have:=x.toNat_lt;have:=ln x.toNat c.toNat;omega)]⟩
theorem eP(x c:UInt32)(hc:0<c.toNat): ∃y:UInt32,(if(c.toNat:Int)=0 then none else some (DE (gj (x.toNat:Int) (c.toNat:Int))))=some y∧y.toNat=x.toNat%c.toNat:=
 ⟨_,qo (by omega),by rw[←k5,OL (by have:=x.toNat_lt;have:=Nat.mod_le x.toNat c.toNat;omega)]⟩
theorem fK(x c:UInt32)(hc:0<c.toNat): ∃y:UInt32,(if(c.toNat:Int)=0 then none else some (DE (gc (x.toNat:Int) (c.toNat:Int))))=some y∧y.toNat=x.toNat/c.toNat:=
 ⟨_,qo (by omega),by rw[←iw,OL (by have:=x.toNat_lt;have:=ln x.toNat c.toNat;omega)]⟩
theorem ZP(x:UInt32)(h:x.toNat<1000):(DE ((x.toNat:Int)*((2:UInt32).toNat:Int))).toNat=2*x.toNat:=by
 rw[show((x.toNat:Int)*((2:UInt32).toNat:Int))=((2*x.toNat:Nat):Int) by rw[show((2:UInt32).toNat:Int)=2 from rfl];omega,OL (by omega)]
theorem inc32(x:UInt32)(h:x.toNat<1000):((DE ((x.toNat:Int)+((1:UInt32).toNat:Int))).toNat:Int)=((x.toNat+1:Nat):Int):=by
 rw[show((x.toNat:Int)+((1:UInt32).toNat:Int))=((x.toNat+1:Nat):Int) by rw[show((1:UInt32).toNat:Int)=1 from rfl];omega,OL (by omega)]
def gX:AG:=[48,48,48,49,48,50,48,51,48,52,48,53,48,54,48,55,48,56,48,57,49,48,49,49,49,50,49,51,49,52,49,53,49,54,49,55,49,56,49,57,50,48,50,49,50,50,50,51,50,52,50,53,50,54,50,55,50,56,50,57,51,48,51,49,51,50,51,51,51,52,51,53,51,54,51,55,51,56,51,57,52,48,52,49,52,50,52,51,52,52,52,53,52,54,52,55,52,56,52,57,53,48,53,49,53,50,53,51,53,52,53,53,53,54,53,55,53,56,53,57,54,48,54,49,54,50,54,51,54,52,54,53,54,54,54,55,54,56,54,57,55,48,55,49,55,50,55,51,55,52,55,53,55,54,55,55,55,56,55,57,56,48,56,49,56,50,56,51,56,52,56,53,56,54,56,55,56,56,56,57,57,48,57,49,57,50,57,51,57,52,57,53,57,54,57,55,57,56,57,57]
theorem qS: ∀k:Fin 100,gX[2*k.1+1]? =some (bc (48+k.1%10))∧gX[2*k.1]? =some (bc (48+k.1/10)):=by decide+kernel
def cD(A:Ar UInt8 24)(o k:Nat):Ar UInt8 24:=(A.set (o+1) (bc (48+k%10))).set o (bc (48+k/10))
theorem OZ{N i o k:Nat}{A:Ar UInt8 24}{x:UInt32}{c d:Int}{γ:Type}{K:Ar UInt8 24→Option γ}(hN:N≤24)(hi:i≤N)(hx:x.toNat=2*k)(hk:k<100)(hc:(i:Int)-c=((o+1:Nat):Int))(hd:(i:Int)-d=(o:Nat))(ho:o+1<N):
  ((Dj gX ((DE ((x.toNat:Int)+((1:UInt32).toNat:Int))).toNat:Int)).bind fun y=>(Dj gX (x.toNat:Int)).bind fun z=>
   (if 0+N*1≤24 then BU N (ql qm ((i:Int)-c))else none).bind fun p=>(if p<24 then some (A.set p y)else none).bind fun B=>
   (if 0+N*1≤24 then BU N (ql qm ((i:Int)-d))else none).bind fun q=>(if q<24 then some (B.set q z)else none).bind K)=K (cD A o k):=by
 obtain⟨g1,g2⟩:=qS ⟨k,hk⟩
 rw[inc32 x (by omega),hx,B5,B5,g1,g2,hc,hd,Bc (by omega),Bc (by omega),qn (by omega),qn (by omega),BV (by omega),BV (by omega)]
 simp only[aa]
 rw[qn (by omega)]
 simp only[aa]
 rw[qn (by omega)]
 rfl
def XO(N a i u:Nat)(A:Ar UInt8 24):Prop:=i≤N∧u<10^i∧pad N a=pad i u++(A.l.take N).drop i
theorem setTwo{l:List UInt8}{N o:Nat}{x y:UInt8}(h:o+1<N)(hl:N≤l.length):(((l.set (o+1) y).set o x).take N).drop o=x::y::(l.take N).drop (o+2):=by
 apply ii
 intro j
 rw[eo,dp,k4,k4]
 match j with
 |0=>simp;omega
 |1=>simp;omega
 |j+2=>
  simp only[c0,eo,dp]
  rw[qo (show¬o=o+(j+2) by omega),qo (show¬o+1=o+(j+2) by omega),show o+(j+2)=o+2+j by omega]
theorem XO.two{N a i u o k:Nat}{A:Ar UInt8 24}(h:XO N a i u A)(hN:N≤24)(ho:i=o+2)(hk:k=u%100):XO N a o (u/100) (cD A o k):=by
 obtain⟨h1,h2,h3⟩:=h
 subst ho hk
 refine⟨by omega,?_,?_⟩
 ·rw[fu (by decide)]
  rw[show 10^o*100=10^(o+2) by rw[gm,gm,Nat.mul_assoc]]
  exact h2
 ·have hs:((cD A o (u%100)).l.take N).drop o=bc (48+u%100/10)::bc (48+u%100%10)::(A.l.take N).drop (o+2):=setTwo (by omega) (by rw[A.len];exact hN)
  rw[hs,h3]
  simp only[pad,dl,dt,dw]
  rw[show u/10/10=u/100 by omega,show u/10%10=u%100/10 by omega,show u%10=u%100%10 by omega]
theorem XO.one{N a i u:Nat}{A:Ar UInt8 24}(h:XO N a i u A)(hN:N≤24)(hi:i=1):XO N a 0 0 (A.set 0 (bc (48+u))):=by
 obtain⟨h1,h2,h3⟩:=h
 subst hi
 have hu:u<10:=by simpa using h2
 refine⟨by omega,by simp,?_⟩
 rw[h3]
 have:(A.set 0 (bc (48+u))).l=A.l.set 0 (bc (48+u)):=rfl
 rw[this]
 cases hA:A.l with
 |nil=>have:=A.len;rw[hA]at this;simp at this
 |cons y l=>
  match N,h1 with
  |N+1,_=>simp[pad,kh hu]
theorem shr64(x c:UInt64)(hc:c.toNat<64): ∃y:UInt64,(if(c.toNat:Int)<0 then none else some (Cw (jl (x.toNat:Int) (2^(min ((c.toNat:Int).toNat) 64)))))=some y∧y.toNat=x.toNat/2^c.toNat:=by
 refine⟨_,qo (by omega),?_⟩
 rw[Int.toNat_natCast,f3 (by omega),show(2:Int)^c.toNat=((2^c.toNat:Nat):Int) by push_cast;rfl,←n4,Gr]
 exact jr (ln _ _) (by have:=x.toNat_lt;omega)
theorem gI{γ:Type}{x c b:UInt64}{n:Nat}{d e:Int}{K:UInt64×Int→Option γ}{r:Option γ}(hb:b.toNat=2^c.toNat)(hc:c.toNat<64)(hd:d=(n:Nat))(he:e=((n+c.toNat:Nat):Int))
  (hK: ∀(y:UInt64) (k:Nat),k≤c.toNat→y.toNat=x.toNat/2^k→(1≤x.toNat→1≤y.toNat)→(x.toNat<2^c.toNat*2^c.toNat→y.toNat<2^c.toNat)→K (y,((n+k:Nat):Int))=r):
  ((if(decide ((b.toNat:Int)≤(x.toNat:Int)))=true then
   (if(c.toNat:Int)<0 then none else some (Cw (jl (x.toNat:Int) (2^(min ((c.toNat:Int).toNat) 64))))).bind fun z=>some (.inl (z,e))
   else some (.inl (x,d)):Option ((UInt64×Int)⊕γ)).bind (a8 K some))=r:=by
 by_cases h:b.toNat≤x.toNat
 ·rw[qn (by simpa using h)]
  obtain⟨y,e1,e2⟩:=shr64 x c hc
  rw[e1,he]
  refine hK y c.toNat (be _) e2 (fun _=> ?_) (fun h2=> ?_)
  ·rw[e2,jy (mi (by decide)),Nat.one_mul,←hb];exact h
  ·rw[e2];exact(fu (mi (by decide))).2 h2
 ·rw[qo (by simpa using h),hd]
  exact hK x 0 (ib _) (by simp) id (fun _=>by omega)
def len8:AG:=[0,1,2,2,3,3,3,3,4,4,4,4,4,4,4,4,5,5,5,5,5,5,5,5,5,5,5,5,5,5,5,5]++aq 32 6++aq 64 7++aq 128 8
theorem len8_get: ∀v:Fin 256,∃t,len8[v.1]? =some t∧(1≤v.1→v.1<2^t.toNat∧2^(t.toNat-1)≤v.1∧1≤t.toNat∧t.toNat≤8):=by
 have key: ∀v:Fin 256,(match len8[v.1]? with|some t=>decide (1≤v.1→v.1<2^t.toNat∧2^(t.toNat-1)≤v.1∧1≤t.toNat∧t.toNat≤8)|none=>false)=true:=by decide+kernel
 intro v
 have:=key v
 split at this
 ·rename_i t e;exact⟨t,e,of_decide_eq_true this⟩
 ·cases this
set_option maxRecDepth 20000 in
theorem yM(a:UInt64)(h:1≤a.toNat): ∃L:Nat,Hg a=some (L:Int)∧1≤L∧L≤64∧a.toNat<2^L∧2^(L-1)≤a.toNat:=by
 have ha:=a.toNat_lt
 have key: ∀r,(∀L:Nat,1≤L→L≤64→a.toNat<2^L→2^(L-1)≤a.toNat→r=some (L:Int))→Hg a=r:=by
  intro r hr
  unfold Hg
  refine gI (n:=0) (c:=32) (b:=4294967296) rfl (by decide) rfl rfl fun y1 k1 g1 e1 p1 q1=> ?_
  refine gI (n:=0+k1) (c:=16) (b:=65536) rfl (by decide) rfl (by rw[show(16:UInt64).toNat=16 from rfl,show(32:UInt64).toNat=32 from rfl]at*;rw[lK (by omega) (by omega)];push_cast;rfl) fun y2 k2 g2 e2 p2 q2=> ?_
  refine gI (n:=0+k1+k2) (c:=8) (b:=256) rfl (by decide) rfl (by rw[show(8:UInt64).toNat=8 from rfl,show(16:UInt64).toNat=16 from rfl,show(32:UInt64).toNat=32 from rfl]at*;rw[lK (by omega) (by omega)];push_cast;rfl) fun y3 k3 g3 e3 p3 q3=> ?_
  rw[show(8:UInt64).toNat=8 from rfl]at g3 q3
  rw[show(16:UInt64).toNat=16 from rfl]at g2 q2
  rw[show(32:UInt64).toNat=32 from rfl]at g1 q1
  have b3:y3.toNat<2^8:=q3 (q2 (q1 (by simpa using ha)))
  have hy3:1≤y3.toNat:=p3 (p2 (p1 h))
  have hv:y3.toNat=a.toNat/2^(k1+k2+k3):=by rw[e3,e2,e1,nd,nd,←n5,←n5,gz]
  obtain⟨t,ht,h1⟩:=len8_get ⟨y3.toNat,b3⟩
  dsimp only at ht h1
  obtain⟨h2,h3,h4,h5⟩:=h1 hy3
  have hu8:((HL (y3.toNat:Int)).toNat:Int)=(y3.toNat:Int):=by
   show((bc ((y3.toNat:Int)%256).toNat).toNat:Int)=_
   rw[show((y3.toNat:Int)%256).toNat=y3.toNat by omega,fk]
   omega
  dsimp only
  rw[hu8]
  show(Dj len8 (y3.toNat:Int)).bind _=r
  rw[B5,ht]
  simp only[aa]
  rw[Bc (by omega),lK (by omega) (by omega),show((0+k1+k2+k3:Nat):Int)+(t.toNat:Int)=((k1+k2+k3+t.toNat:Nat):Int) by omega]
  rw[hv]at h2 h3
  refine(hr _ (by omega) (by omega) ?_ ?_).symm
  ·rw[fu (mi (by decide)),←n5,pc]at h2
   exact h2
  ·rw[jy (mi (by decide)),←n5]at h3
   rw[show k1+k2+k3+t.toNat-1=t.toNat-1+(k1+k2+k3) by omega]
   exact h3
 have hex: ∃L:Nat,1≤L∧L≤64∧a.toNat<2^L∧2^(L-1)≤a.toNat:=by
  refine⟨a.toNat.log2+1,by omega,?_,Nat.lt_log2_self,Nat.log2_self_le (by omega)⟩
  have:=(Nat.log2_lt (by omega:a.toNat≠0) (k:=64)).2 (by simpa using ha)
  omega
 obtain⟨L,l1,l2,l3,l4⟩:=hex
 refine⟨L,key _ fun M m1 m2 m3 m4=> ?_,l1,l2,l3,l4⟩
 have hLM: ∀{A B:Nat},a.toNat<2^A→2^(B-1)≤a.toNat→B≤A:=fun{A B} x y=>by
  have:2^(B-1)<2^A:=jr y x
  have:=(Nat.pow_lt_pow_iff_right (by decide:1<2)).1 this
  omega
 have:L=M:=Nat.le_antisymm (hLM m3 l4) (hLM l3 m4)
 rw[this]
theorem log_get: ∀L:Fin 65,∃p:UInt64,sK.l[L.1*78913/262144]? =some p∧p.toNat=10^(L.1*78913/262144)∧(1≤L.1→2^L.1≤10^(L.1*78913/262144+1)∧10^(L.1*78913/262144-1)≤2^(L.1-1))∧L.1*78913/262144≤19:=by
 have key: ∀L:Fin 65,(match sK.l[L.1*78913/262144]? with|some p=>decide (p.toNat=10^(L.1*78913/262144)∧(1≤L.1→2^L.1≤10^(L.1*78913/262144+1)∧10^(L.1*78913/262144-1)≤2^(L.1-1))∧L.1*78913/262144≤19)|none=>false)=true:=by decide+kernel
 intro L
 have:=key L
 split at this
 ·rename_i p e;exact⟨p,e,of_decide_eq_true this⟩
 ·cases this
theorem cE(a:UInt64)(h:100≤a.toNat): ∃N:Nat,Ed a=some ((N+1:Nat):Int)∧N<20∧10^N≤a.toNat∧a.toNat<10^(N+1):=by
 obtain⟨L,e1,l1,l2,l3,l4⟩:=yM a (by omega)
 obtain⟨p,e2,e3,e4,e5⟩:=log_get ⟨L,by omega⟩
 obtain⟨e4,e6⟩:=e4 l1
 dsimp only at e2 e3 e4 e5 e6
 have hl:Ee (L:Int)=some ((L*78913/262144:Nat):Int):=by
  unfold Ee
  rw[qo (by decide),show((L:Int)*78913)=((L*78913:Nat):Int) by omega,Bc (by omega),show((2:Int)^(min ((18:UInt64).toNat:Int).toNat 64))=((262144:Nat):Int) by rfl,←n4]
  rfl
 generalize L*78913/262144=k at*
 unfold Ed
 simp only[e1,hl,aa,B5,e2,Fw,e3]
 by_cases hp:10^k≤a.toNat
 ·rw[qn (qq (pg.2 hp))]
  refine⟨k,?_,by omega,hp,en l3 e4⟩
  simp only[aa]
  rw[show((k:Nat):Int)+1=((k+1:Nat):Int) by omega,Bc (by omega)]
 ·rw[qo (by rw[qp];exact fun h=>hp (pg.1 h))]
  have hpos:1≤k:=by
   rcases d7 k with h0|h0
   ·rw[h0]at hp;simp at hp;omega
   ·exact h0
  refine⟨k-1,?_,by omega,dy e6 l4,?_⟩
  ·simp only[aa]
   rw[show((k:Nat):Int)+0=((k-1+1:Nat):Int) by omega,Bc (by omega)]
  ·rw[show k-1+1=k by omega];omega
theorem tW{n m:Nat}(h:m≤n):((Qr n none (some (m:Int))).map fun p=>p.2)=some m:=by
 simp[Qr,h]
theorem wN{α β:Type}{x:Option α}{K:α→Option β}{r:Option β}(Q:α→Prop)(h: ∃b,x=some b∧Q b)(k: ∀b,Q b→K b=r):x.bind K=r:=by
 obtain⟨b,rfl,hb⟩:=h;exact k b hb
theorem kR{α β:Type}{x:Option α}{K:α→Option β}{Q:β→Prop}(R:α→Prop)(h: ∃b,x=some b∧R b)(k: ∀b,R b→ ∃c,K b=some c∧Q c): ∃c,x.bind K=some c∧Q c:=by
 obtain⟨b,rfl,hb⟩:=h;exact k b hb
theorem jB{σ β γ:Type}{F:σ→Option (σ⊕β)}{K:β→Option γ}{Q':γ→Prop}{s:σ}(m:σ→Nat)(I:σ→Prop)(Q:β→Prop)(h:I s)
  (step: ∀s,I s→(∃s',F s=some (.inl s')∧I s'∧m s'<m s)∨ ∃b,F s=some (.inr b)∧Q b) (fin: ∀b,Q b→ ∃c,K b=some c∧Q' c): ∃c,(iter F s).bind K=some c∧Q' c:=
 kR Q (Us m I Q step h) fin
theorem XO.end{N a u:Nat}{A:Ar UInt8 24}(h:XO N a 0 u A):A.l.take N=pad N a:=by
 have:=h.2.2
 simp[pad]at this
 exact this.symm
theorem pow_lt32{i u:Nat}(h:u<10^i)(hi:i<9):u<4294967296:=o6 h (jr (kb (by decide) (show i≤8 by omega)) (by decide))
set_option maxHeartbeats 4000000 in
set_option maxRecDepth 20000 in
theorem sN(a:UInt64)(h:100≤a.toNat):C7 a 10=some (J4 a.toNat):=by
 have halt:=a.toNat_lt
 obtain⟨M,e1,hM,l1,l2⟩:=cE a h
 have hM1:1≤M:=by
  rcases d7 M with h0|h0
  ·subst h0;simp at l2;omega
  ·exact h0
 have hdig:J4 a.toNat=pad (M+1) a.toNat:=pD M 20 a.toNat (by omega) l2 (.inr l1)
 generalize hN:M+1=N at*
 unfold C7
 rw[qn (by decide)]
 dsimp only
 rw[qo (by rw[qp,show((100:UInt64).toNat:Int)=100 from rfl];omega),e1,aa,tW (by omega),aa]
 have e100:(100:UInt32).toNat=100:=rfl
 have e10k:(10000:UInt32).toNat=10000:=rfl
 have e100m:(100000000:UInt64).toNat=100000000:=rfl
 refine wN (fun A:Ar UInt8 24=>A.l.take N=pad N a.toNat) ?_ fun A hA=>by
  rw[aa]
  simp only[frzO]
  rw[qn (by omega)]
  simp only[aa,db,Es,hA,hdig]
 refine jB (fun s=>s.2.1.toNat) (fun s:UInt64×Int×Ar UInt8 24=> ∃i:Nat,s.2.1=i∧XO N a.toNat i s.1.toNat s.2.2)
  (fun r=> ∃(i:Nat) (u:UInt64) (A:Ar UInt8 24),r= .inl (u,(i:Int),A)∧i<8∧XO N a.toNat i u.toNat A) ⟨N,rfl,be _,l2,by
   rw[ce (by rw[a6];omega),dv]⟩ ?_ ?_
 ·rintro⟨u,s,A⟩ ⟨i,rfl,hd⟩
  dsimp only at hd ⊢
  have hiN:=hd.1
  by_cases hi:8≤i
  ·left
   rw[qn (by rw[qp];omega)]
   obtain⟨x13,f13,v13⟩:=mod64 u 100000000 (by decide)
   obtain⟨x15,f15,v15⟩:=div64 u 100000000 (by decide)
   rw[f13,f15,aa,aa]
   rw[e100m]at v13 v15
   have b13:x13.toNat<4294967296:=by omega
   have w13:=OL b13
   obtain⟨x16,f16,v16⟩:=fK (DE (x13.toNat:Int)) 10000 (by decide)
   obtain⟨x17,f17,v17⟩:=eP (DE (x13.toNat:Int)) 10000 (by decide)
   rw[f16,f17,aa,aa]
   rw[w13,e10k,v13]at v16 v17
   obtain⟨x18,f18,v18⟩:=fK x17 100 (by decide)
   obtain⟨x20,f20,v20⟩:=eP x17 100 (by decide)
   obtain⟨x22,f22,v22⟩:=fK x16 100 (by decide)
   obtain⟨x24,f24,v24⟩:=eP x16 100 (by decide)
   rw[f18,f20,f22,f24,aa,aa,aa,aa]
   rw[e100,v17]at v18 v20
   rw[e100,v16]at v22 v24
   refine⟨(x15,((i-8:Nat):Int),cD (cD (cD (cD A (i-2) (u.toNat%100)) (i-4) (u.toNat/100%100)) (i-6) (u.toNat/100/100%100)) (i-8) (u.toNat/100/100/100%100)),?_,⟨i-8,rfl,?_⟩,by dsimp only;omega⟩
   ·refine(OZ (N:=N) (i:=i) (o:=i-2) (k:=u.toNat%100) (by omega) hiN (by rw[ZP _ (by omega)];omega) (by omega) (by omega) (by omega) (by omega)).trans ?_
    refine(OZ (N:=N) (i:=i) (o:=i-4) (k:=u.toNat/100%100) (by omega) hiN (by rw[ZP _ (by omega)];omega) (by omega) (by omega) (by omega) (by omega)).trans ?_
    refine(OZ (N:=N) (i:=i) (o:=i-6) (k:=u.toNat/100/100%100) (by omega) hiN (by rw[ZP _ (by omega)];omega) (by omega) (by omega) (by omega) (by omega)).trans ?_
    refine(OZ (N:=N) (i:=i) (o:=i-8) (k:=u.toNat/100/100/100%100) (by omega) hiN (by rw[ZP _ (by omega)];omega) (by omega) (by omega) (by omega) (by omega)).trans ?_
    rw[show((i:Nat):Int)-8=((i-8:Nat):Int) by omega,Bc (by omega)]
   ·rw[show x15.toNat=u.toNat/100/100/100/100 by omega]
    exact(((hd.two (by omega) (by omega) rfl).two (i:=i-2) (o:=i-4) (by omega) (by omega) rfl).two (i:=i-4) (o:=i-6) (by omega) (by omega) rfl).two (i:=i-6) (o:=i-8) (by omega) (by omega) rfl
  ·right
   rw[qo (by rw[qp];omega)]
   exact⟨_,rfl,i,u,A,rfl,by omega,hd⟩
 ·rintro _ ⟨i,u,A,rfl,hi,hd⟩
  have hiN:=hd.1
  have hu32:=pow_lt32 hd.2.1 (by omega)
  have wu:=OL hu32
  refine kR (fun r=> ∃(i:Nat) (w:UInt32) (A:Ar UInt8 24),r= .inl ((i:Int),w,A)∧i<4∧XO N a.toNat i w.toNat A) ?_ ?_
  ·dsimp only
   by_cases h4:4≤i
   ·rw[qn (by rw[qp];omega)]
    obtain⟨x88,f88,v88⟩:=eP (DE (u.toNat:Int)) 10000 (by decide)
    obtain⟨x89,f89,v89⟩:=fK (DE (u.toNat:Int)) 10000 (by decide)
    rw[f88,f89,aa,aa]
    rw[wu,e10k]at v88 v89
    obtain⟨x90,f90,v90⟩:=fK x88 100 (by decide)
    obtain⟨x92,f92,v92⟩:=eP x88 100 (by decide)
    rw[f90,f92,aa,aa]
    rw[e100,v88]at v90 v92
    refine⟨.inl (((i-4:Nat):Int),x89,cD (cD A (i-2) (u.toNat%100)) (i-4) (u.toNat/100%100)),?_,i-4,_,_,rfl,by omega,?_⟩
    ·refine(OZ (N:=N) (i:=i) (o:=i-2) (k:=u.toNat%100) (by omega) hiN (by rw[ZP _ (by omega)];omega) (by omega) (by omega) (by omega) (by omega)).trans ?_
     refine(OZ (N:=N) (i:=i) (o:=i-4) (k:=u.toNat/100%100) (by omega) hiN (by rw[ZP _ (by omega)];omega) (by omega) (by omega) (by omega) (by omega)).trans ?_
     rw[show((i:Nat):Int)-4=((i-4:Nat):Int) by omega,Bc (by omega)]
    ·rw[show x89.toNat=u.toNat/100/100 by omega]
     exact(hd.two (by omega) (by omega) rfl).two (i:=i-2) (o:=i-4) (by omega) (by omega) rfl
   ·rw[qo (by rw[qp];omega)]
    exact⟨_,rfl,i,_,A,rfl,by omega,by rw[wu];exact hd⟩
  ·rintro _ ⟨i,w,A,rfl,hi,hd⟩
   have hiN:=hd.1
   refine kR (fun r=> ∃(i:Nat) (w:UInt32) (A:Ar UInt8 24),r= .inl ((i:Int),w,A)∧i<2∧XO N a.toNat i w.toNat A) ?_ ?_
   ·dsimp only
    by_cases h2:2≤i
    ·rw[qn (by rw[qp];omega)]
     obtain⟨x75,f75,v75⟩:=eP w 100 (by decide)
     obtain⟨x77,f77,v77⟩:=fK w 100 (by decide)
     rw[f75,f77,aa,aa]
     rw[e100]at v75 v77
     refine⟨.inl (((i-2:Nat):Int),x77,cD A (i-2) (w.toNat%100)),?_,i-2,_,_,rfl,by omega,?_⟩
     ·refine(OZ (N:=N) (i:=i) (o:=i-2) (k:=w.toNat%100) (by omega) hiN (by rw[ZP _ (by omega)];omega) (by omega) (by omega) (by omega) (by omega)).trans ?_
      rw[show((i:Nat):Int)-2=((i-2:Nat):Int) by omega,Bc (by omega)]
     ·rw[v77]
      exact hd.two (by omega) (by omega) rfl
    ·rw[qo (by rw[qp];omega)]
     exact⟨_,rfl,i,_,A,rfl,by omega,hd⟩
   ·rintro _ ⟨i,w,A,rfl,hi,hd⟩
    have hiN:=hd.1
    dsimp only[fj]
    by_cases h1:0<i
    ·have hi1:i=1:=by omega
     subst hi1
     have hw:w.toNat<10:=by simpa using hd.2.1
     rw[qn (by rw[qp];omega),qn (by omega),show(0:Int)=((0:Nat):Int)from rfl,BV (by omega),aa,qn (by omega),aa]
     refine⟨_,rfl,?_⟩
     have hb:HL ((DE (((48:UInt32).toNat:Int)+(w.toNat:Int))).toNat:Int)=bc (48+w.toNat):=by
      rw[show(((48:UInt32).toNat:Int)+(w.toNat:Int))=((48+w.toNat:Nat):Int) by rw[show((48:UInt32).toNat:Int)=48 from rfl];omega,OL (by omega)]
      exact u8_of (by omega)
     rw[hb]
     exact(hd.one (by omega) rfl).end
    ·obtain rfl:i=0:=by omega
     rw[qo (by rw[qp];omega)]
     exact⟨_,rfl,hd.end⟩
theorem xB: ∀n:Fin 100,GQ (n.1:Int)=some (J4 n.1):=by decide+kernel
theorem Px(a:UInt64):FZ a=some (J4 a.toNat):=by
 have:C7 a 10=some (J4 a.toNat):=by
  by_cases h:100≤a.toNat
  ·exact sN a h
  ·unfold C7
   rw[qn (by decide)]
   dsimp only
   rw[qn (by rw[qp,show((100:UInt64).toNat:Int)=100 from rfl];omega),Bc (by omega),xB ⟨a.toNat,by omega⟩]
   rfl
 unfold FZ Ja
 rw[this];rfl
end
section
def Ds(sep:AG):List AG→AG
 |[]=>[]
 |[x]=>x
 |x::y::r=>x++sep++Ds sep (y::r)
theorem Po(sep:AG): ∀(l:List AG) (x:AG),l≠[]→Ds sep (l++[x])=Ds sep l++sep++x
 |[],_,h=>absurd rfl h
 |[y],x,_=>rfl
 |y::z::r,x,_=>by
  have:=Po sep (z::r) x (by simp)
  simp only[dt,Ds]at this ⊢
  rw[this];simp
def NG(l:List AG):Nat:=(l.map f8).sum
theorem dO{l:List AG}{i:Nat}(h:i<l.length):NG (l.take (i+1))=NG (l.take i)+l[i].length:=by
 unfold NG;rw[bd h,de,List.sum_append,iz,List.sum_singleton]
theorem Hv(sep:AG): ∀l:List AG,(Ds sep l).length=sep.length*(l.length-1)+NG l
 |[]=>by simp[Ds,NG]
 |[x]=>by simp[Ds,NG]
 |x::y::r=>by
  have:=Hv sep (y::r)
  simp only[Ds,aw,this,NG,bn,ot,bb,mc,Nat.mul_add,nx]
  omega
theorem Va(l:List AG)(i:Nat):NG (l.take i)≤NG l:=by
 conv=>rhs;rw[←fq i l]
 unfold NG;rw[de,List.sum_append];omega
theorem Zs(sep:AG)(l:List AG)(i:Nat):(Ds sep (l.take i)).length≤(Ds sep l).length:=by
 rw[Hv,Hv]
 have h1:=Va l i
 have h2:sep.length*((l.take i).length-1)≤sep.length*(l.length-1):=Nat.mul_le_mul_left _ (by rw[a6];omega)
 omega
theorem QL(g:GS AG)(sep:AG)(hl:g.l.length<1000000)(hs:sep.length<1000)(h:(Ds sep g.l).length<1000000000):CN g sep=some (Ds sep g.l):=by
 unfold CN
 have hjl:=Hv sep g.l
 by_cases h0:g.l.length=0
 ·rw[qn (by rw[qp,h0];rfl),cj h0];rfl
 rw[qo (by rw[qp];omega)]
 by_cases h1:g.l.length=1
 ·rw[qn (by rw[qp,h1];rfl)]
  obtain⟨x,hx⟩:=List.length_eq_one_iff.1 h1
  rw[hx];rfl
 rw[qo (by rw[qp];omega)]
 have hw:ql qm ((g.l.length:Int)-1)=((g.l.length-1:Nat):Int):=by
  rw[show(g.l.length:Int)-1=((g.l.length-1:Nat):Int) by omega,Bc (by omega)]
 have hprod:sep.length*(g.l.length-1)<1000000000:=by omega
 refine wN (fun r=>r= .inl ((sep.length*(g.l.length-1):Nat):Int)) ?_ ?_
 ·by_cases hs0:0<sep.length
  ·rw[qn (by rw[qp];omega)]
   simp only[hw]
   rw[qo (by omega)]
   have hq:ql qm (gc 9223372036854775807 ((g.l.length-1:Nat):Int))=((9223372036854775807/(g.l.length-1):Nat):Int):=by
    rw[show(9223372036854775807:Int)=((9223372036854775807:Nat):Int)from rfl,←iw,Bc (jr (ln _ _) (by decide))]
   rw[hq,aa,qo (by
    rw[qp,pg]
    have:1000000≤9223372036854775807/(g.l.length-1):=(jy (by omega)).2 (by omega)
    omega)]
   have e1:ql qm ((sep.length:Int)*((g.l.length-1:Nat):Int))=((sep.length*(g.l.length-1):Nat):Int):=by
    rw[←Int.natCast_mul,Bc (by omega)]
   rw[e1,Int.zero_add,Bc (by omega)]
   exact⟨_,rfl,rfl⟩
  ·rw[qo (by rw[qp];omega)]
   have:sep.length=0:=by omega
   exact⟨_,rfl,by rw[this,jb];rfl⟩
 ·rintro _ rfl
  dsimp only[fj]
  refine DK (fun s=>g.l.length-s.2.toNat) (fun s=> ∃i:Nat,s.2=i∧i≤g.l.length∧s.1=((sep.length*(g.l.length-1)+NG (g.l.take i):Nat):Int)) (fun r=>r= .inl ((Ds sep g.l).length:Int)) ⟨0,rfl,by omega,by simp[NG]⟩ ?_ ?_
  ·rintro⟨n,s⟩ ⟨i,rfl,hi,rfl⟩
   dsimp only
   have hm:=Va g.l i
   by_cases hlt:i<g.l.length
   ·left
    have hm1:=Va g.l (i+1)
    rw[dO hlt]at hm1
    rw[qn (by rw[qp];omega),B5,ad hlt,aa]
    rw[qo (by rw[qp,lK (by omega) (by omega)];omega)]
    refine⟨_,rfl,⟨i+1,?_,by omega,?_⟩,?_⟩
    ·dsimp only;rw[show(i:Int)+1=((i+1:Nat):Int) by omega,Bc (by omega)]
    ·dsimp only
     rw[dO hlt,←ng,Bc (by omega),gz]
    ·dsimp only;rw[show(i:Int)+1=((i+1:Nat):Int) by omega,Bc (by omega)];omega
   ·right
    rw[qo (by rw[qp];omega)]
    exact⟨_,rfl,by rw[av (by omega),hjl]⟩
  ·rintro _ rfl
   dsimp only[fj]
   have hg1:nR [] ((Ds sep g.l).length:Int)=some []:=by
    unfold nR;rw[qn ⟨rfl,by omega,by unfold Bs;omega⟩]
   cases hgl:g with
   |nil=>rw[hgl]at h0;simp at h0
   |mk l=>
    subst hgl
    simp only[Es]at*
    cases l with
    |nil=>simp at h0
    |cons x r=>
     have hx:x.length≤(Ds sep (x::r)).length:=by
      have:=Zs sep (x::r) 1
      simpa [Ds]using this
     rw[hg1,aa,show(0:Int)=((0:Nat):Int)from rfl,B5]
     simp only[bx,aa]
     have hb:Nm [] x=some x:=by unfold Nm;rw[qn (by simp;unfold Bs;omega)];rfl
     obtain⟨g2,hsl,hg2⟩: ∃g2:GS AG,slG (.mk (x::r)) (some 1) none=some g2∧g2.l=r:=⟨.mk r,slG_from (n:=1) (by simp),rfl⟩
     subst hg2
     rw[hb,aa,hsl,aa]
     refine DK (fun s=>g2.l.length-s.1.toNat) (fun s=> ∃i:Nat,s.1=i∧i≤g2.l.length∧s.2=Ds sep ((x::g2.l).take (i+1))) (fun b=>b= .inl (Ds sep (x::g2.l))) ⟨0,rfl,by omega,rfl⟩ ?_ ?_
     ·rintro⟨s,t⟩ ⟨i,rfl,hi,rfl⟩
      dsimp only
      by_cases hlt:i<g2.l.length
      ·left
       have hj2:=Zs sep (x::g2.l) (i+1+1)
       have hsn:Ds sep ((x::g2.l).take (i+1+1))=Ds sep ((x::g2.l).take (i+1))++sep++g2.l[i]:=by
        rw[bd (show i+1<(x::g2.l).length by simpa using hlt),Po sep _ _ (by simp)]
        rfl
       have hj3:=hj2
       rw[hsn,aw,aw]at hj3
       rw[qn (by rw[qp];omega),B5,ad hlt,aa]
       have b1:Nm (Ds sep ((x::g2.l).take (i+1))) sep=some (Ds sep ((x::g2.l).take (i+1))++sep):=by unfold Nm;rw[qn (by unfold Bs;omega)]
       have b2:Nm (Ds sep ((x::g2.l).take (i+1))++sep) g2.l[i]=some (Ds sep ((x::g2.l).take (i+1))++sep++g2.l[i]):=by unfold Nm;rw[qn (by rw[aw];unfold Bs;omega)]
       rw[b1,aa,b2,aa]
       refine⟨_,rfl,⟨i+1,?_,by omega,hsn.symm⟩,?_⟩
       ·dsimp only;rw[show(i:Int)+1=((i+1:Nat):Int) by omega,Bc (by simp at hl;omega)]
       ·dsimp only;rw[show(i:Int)+1=((i+1:Nat):Int) by omega,Bc (by simp at hl;omega)];omega
      ·right
       rw[qo (by rw[qp];omega)]
       exact⟨_,rfl,by rw[av (by simp;omega)]⟩
     ·rintro _ rfl
      dsimp only[fj]
      have hT:kQ (decide (0<((Ds sep (x::g2.l)).length:Int))) (Ds sep (x::g2.l))=some (Ds sep (x::g2.l)):=by
       unfold kQ
       refine qn ⟨by unfold Bs;omega,fun hp h0=> ?_⟩
       rw[qp,h0]at hp
       simp at hp
      exact qv (fun x:Option AG=>x.bind fun y=>some y) hT
def hd(k:Nat):UInt8:=if k<10 then bc (48+k)else bc (87+k)
def hexB(b:UInt8):AG:=[hd (b.toNat/16),hd (b.toNat%16)]
def KF(l:List UInt8):AG:=l.flatMap hexB
theorem QP(l:List UInt8):(KF l).length=2*l.length:=by
 induction l with
 |nil=>rfl
 |cons b l ih=>simp only[KF,eh,aw,bb]at ih ⊢;rw[ih];simp[hexB];omega
theorem eW{l:List UInt8}{i:Nat}(h:i<l.length):KF (l.take (i+1))=KF (l.take i)++[hd (l[i].toNat/16)]++[hd (l[i].toNat%16)]:=by
 rw[bd h];simp only[KF,List.flatMap_append,eh,mw,hexB,dv,dl];rfl
def hdigs:AG:=[48,49,50,51,52,53,54,55,56,57,97,98,99,100,101,102]
theorem VA: ∀k:Fin 16,hdigs[k.1]? =some (hd k.1):=by decide+kernel
theorem hi_val: ∀b:Fin 256,(if((4:UInt64).toNat:Int)<0 then none else some (HL (jl ((bc b.1).toNat:Int) (2^(min ((4:UInt64).toNat:Int).toNat 8)))))=some (bc (b.1/16)):=by decide+kernel
theorem lo_val: ∀b:Fin 256,HL (FA .and .u8 ((bc b.1).toNat:Int) ((15:UInt8).toNat:Int))=bc (b.1%16):=by decide+kernel
theorem nat8{k:Nat}(h:k<256):(bc k).toNat=k:=by rw[fk];omega
theorem Ut(g:GS UInt8)(h:g.l.length<1000000):JE g=some (KF g.l):=by
 unfold JE
 refine DK (fun s=>g.l.length-s.1.toNat) (fun s=> ∃i:Nat,s.1=i∧i≤g.l.length∧s.2=KF (g.l.take i)) (fun b=>b= .inl (KF g.l)) ⟨0,rfl,by omega,rfl⟩ ?_ ?_
 ·rintro⟨s,t⟩ ⟨i,rfl,hi,rfl⟩
  dsimp only
  have hlen:=QP (g.l.take i)
  rw[a6]at hlen
  by_cases hlt:i<g.l.length
  ·left
   rw[qn (by rw[qp];omega),B5,ad hlt,aa]
   have hb:=g.l[i].toNat_lt
   have e1:=hi_val ⟨g.l[i].toNat,hb⟩
   have e2:=lo_val ⟨g.l[i].toNat,hb⟩
   simp only[mS]at e1 e2
   rw[e1,aa]
   rw[e2,nat8 (by omega),nat8 (by omega),B5,B5]
   have d1:=VA ⟨g.l[i].toNat/16,by omega⟩
   have d2:=VA ⟨g.l[i].toNat%16,by omega⟩
   have b1:Nm (KF (g.l.take i)) [hd (g.l[i].toNat/16)]=some (KF (g.l.take i)++[hd (g.l[i].toNat/16)]):=by unfold Nm;rw[qn (by simp;unfold Bs;omega)]
   have b2:Nm (KF (g.l.take i)++[hd (g.l[i].toNat/16)]) [hd (g.l[i].toNat%16)]=some (KF (g.l.take i)++[hd (g.l[i].toNat/16)]++[hd (g.l[i].toNat%16)]):=by unfold Nm;rw[qn (by simp;unfold Bs;omega)]
   refine⟨(((i+1:Nat):Int),KF (g.l.take (i+1))),?_,⟨i+1,rfl,by omega,rfl⟩,by dsimp only;omega⟩
   refine(qv (fun x:Option UInt8=>x.bind _) d1).trans ?_
   rw[aa,b1,aa]
   refine(qv (fun x:Option UInt8=>x.bind _) d2).trans ?_
   rw[aa,b2,aa,eW hlt,show(i:Int)+1=((i+1:Nat):Int) by omega,Bc (by omega)]
  ·right
   rw[qo (by rw[qp];omega)]
   exact⟨_,rfl,by rw[av (by omega)]⟩
 ·rintro _ rfl
  dsimp only[fj]
  unfold kQ
  rw[qn ⟨by rw[QP];unfold Bs;omega,fun h=>by cases h⟩]
  rfl
theorem keys_hex(K:Ar UInt8 32):Ur K=some (KF K.l):=by
 unfold Ur
 rw[qn (by decide),db,av (by rw[K.len];exact be _),Ut _ (by simp[K.len])]
 rfl
theorem I6: ∀k:Fin 16,Hs (k.1:Int)=some [hd k.1]:=by decide+kernel
theorem YU(g:GS UInt8)(h:g.l.length<1000000):KC g=some (KF g.l):=by
 unfold KC
 refine DK (fun s=>g.l.length-s.2.toNat) (fun s=> ∃i:Nat,s.2=i∧i≤g.l.length∧s.1=KF (g.l.take i)) (fun b=>b= .inl (KF g.l)) ⟨0,rfl,by omega,rfl⟩ ?_ ?_
 ·rintro⟨t,s⟩ ⟨i,rfl,hi,rfl⟩
  dsimp only
  have hlen:=QP (g.l.take i)
  rw[a6]at hlen
  by_cases hlt:i<g.l.length
  ·left
   have hb:=g.l[i].toNat_lt
   have q1:ql qm (gc (g.l[i].toNat:Int) 16)=((g.l[i].toNat/16:Nat):Int):=by
    rw[show(16:Int)=((16:Nat):Int)from rfl,←iw,Bc (by omega)]
   have q2:gj (g.l[i].toNat:Int) 16=((g.l[i].toNat%16:Nat):Int):=by
    rw[show(16:Int)=((16:Nat):Int)from rfl,←k5]
   have d1:=I6 ⟨g.l[i].toNat/16,by omega⟩
   have d2:=I6 ⟨g.l[i].toNat%16,by omega⟩
   dsimp only at d1 d2
   rw[qn (by rw[qp];omega),B5,ad hlt,aa,Bc (by omega),qo (by decide),aa,q1,d1,aa,qn (by simp;unfold Bs;omega),aa,aa,Bc (by omega),qo (by decide),aa,q2,d2,aa,qn (by simp;unfold Bs;omega),aa]
   refine⟨_,rfl,⟨i+1,?_,by omega,(eW hlt).symm⟩,?_⟩
   ·dsimp only;rw[show(i:Int)+1=((i+1:Nat):Int) by omega,Bc (by omega)]
   ·dsimp only;rw[show(i:Int)+1=((i+1:Nat):Int) by omega,Bc (by omega)];omega
  ·right
   rw[qo (by rw[qp];omega)]
   exact⟨_,rfl,by rw[av (by omega)]⟩
 ·rintro _ rfl;rfl
theorem xR(K:Ar UInt8 32):RF K=some (.mk K.l):=by
 unfold RF
 have hK:=K.len
 refine DK (fun s=>32-s.1.toNat) (fun s=> ∃i:Nat,s.1=i∧i≤32∧s.2=O6 (K.l.take i)) (fun b=>b= .inl (.mk K.l)) ⟨0,rfl,by omega,rfl⟩ ?_ ?_
 ·rintro⟨s,t⟩ ⟨i,rfl,hi,rfl⟩
  dsimp only
  by_cases hlt:i<32
  ·left
   have hl:i<K.l.length:=by omega
   rw[qn (by rw[qp];omega),BV hlt,aa,ad hl,aa,PK (by rw[L1,a6];unfold Bs;omega),aa]
   refine⟨_,rfl,⟨i+1,?_,by omega,?_⟩,?_⟩
   ·dsimp only;rw[show(i:Int)+1=((i+1:Nat):Int) by omega,Bc (by omega)]
   ·dsimp only;rw[L1,bd hl,Z1]
   ·dsimp only;rw[show(i:Int)+1=((i+1:Nat):Int) by omega,Bc (by omega)];omega
  ·right
   rw[qo (by rw[qp];omega)]
   refine⟨_,rfl,?_⟩
   rw[av (by omega)]
   cases hKl:K.l with
   |nil=>rw[hKl]at hK;simp at hK
   |cons x l=>rfl
 ·rintro _ rfl;rfl
end
section
def S7(l:List UInt8):AG:=Ds [46] (l.map fun b=>J4 b.toNat)
theorem Ym{l:List AG}{n:Nat}(h: ∀x∈l,x.length≤n):NG l≤l.length*n:=by
 induction l with
 |nil=>simp[NG]
 |cons x l ih=>
  have h1:=h x (by simp)
  have h2:=ih fun y hy=>h y (by simp[hy])
  simp only[NG,bn,ot,bb,fx,Nat.one_mul]at h2 ⊢
  omega
theorem Vx(l:List UInt8):(S7 l).length≤21*l.length:=by
 unfold S7
 rw[Hv]
 have:=Ym (l:=l.map fun b=>J4 b.toNat) (n:=20) (fun x hx=>by obtain⟨b,_,rfl⟩:=ls.1 hx;exact Kg _)
 simp at this ⊢
 omega
theorem dec8(b:UInt8):FZ (Cw (b.toNat:Int))=some (J4 b.toNat):=by
 rw[Px,Gr (by have:=b.toNat_lt;omega)]
theorem r03_8(b:UInt8):JB (Cw (b.toNat:Int))=some (J4 b.toNat):=by
 rw[iP,Gr (by have:=b.toNat_lt;omega)]
theorem RA{α:Type}{l d:List α}{x:α}{i:Nat}(h:i<l.length)(hd:l.take i=d):(l.set i x).take (i+1)=d++[x]:=by
 rw[bd (by rw[fy];exact h),nm,oj (be _),hd]
theorem xT(B:Ar UInt8 4):RI B=some (S7 B.l):=by
 have hB:=B.len
 unfold RI
 refine DK (fun s=>4-s.1.toNat) (fun s=> ∃i:Nat,s.1=i∧i≤4∧s.2.l.take i=(B.l.take i).map fun b=>J4 b.toNat) (fun r=> ∃A:Ar AG 4,r= .inl A∧A.l=B.l.map fun b=>J4 b.toNat) ⟨0,rfl,by omega,rfl⟩ ?_ ?_
 ·rintro⟨s,A⟩ ⟨i,rfl,hi,hA⟩
  dsimp only at hA ⊢
  by_cases hlt:i<4
  ·left
   rw[qn (by rw[qp];omega),B5,ad (show i<B.l.length by omega),aa,dec8,aa,BV hlt,aa,qn hlt,aa]
   refine⟨_,rfl,⟨i+1,?_,by omega,?_⟩,?_⟩
   ·dsimp only;rw[show(i:Int)+1=((i+1:Nat):Int) by omega,Bc (by omega)]
   ·dsimp only
    rw[bd (show i<B.l.length by omega),de]
    exact RA (by rw[A.len];exact hlt) hA
   ·dsimp only;rw[show(i:Int)+1=((i+1:Nat):Int) by omega,Bc (by omega)];omega
  ·right
   rw[qo (by rw[qp];omega)]
   refine⟨_,rfl,A,rfl,?_⟩
   rw[av (by rw[A.len];omega),av (by omega)]at hA
   exact hA
 ·rintro _ ⟨A,rfl,hA⟩
  dsimp only[fj]
  have hl:=Vx B.l
  have hlt:(S7 B.l).length<1000000000:=by omega
  have hj:=QL (.mk A.l) [46] (by simp[A.len]) (by decide) (by show(Ds [46] A.l).length<1000000000;rw[hA];exact hlt)
  rw[qn (by decide),db,av (by rw[A.len];exact be _),hj,Es,hA]
  rfl
theorem r08_text(B:Ar UInt8 4):Ui B=some (S7 B.l):=by
 have hB:=B.len
 unfold Ui
 have h0:0<B.l.length:=by omega
 rw[show(0:Int)=((0:Nat):Int)from rfl,BV (by decide),aa,ad h0,aa,r03_8,aa]
 refine DK (fun s=>4-s.2.toNat) (fun s=> ∃i:Nat,s.2=((i+1:Nat):Int)∧i+1≤4∧s.1=S7 (B.l.take (i+1))) (fun r=>r= .inl (S7 B.l)) ⟨0,rfl,by omega,by
  rw[bd h0];rfl⟩ ?_ ?_
 ·rintro⟨t,s⟩ ⟨i,rfl,hi,rfl⟩
  dsimp only
  have hl:=Vx (B.l.take (i+1))
  rw[a6]at hl
  by_cases hlt:i+1<4
  ·left
   have hd:=Kg (B.l[i+1]'(by omega)).toNat
   rw[qn (by rw[qp];omega),qn (by simp;unfold Bs;omega),aa,BV hlt,aa,ad (show i+1<B.l.length by omega),aa,r03_8,aa,qn (by simp;unfold Bs;omega),aa]
   refine⟨_,rfl,⟨i+1,?_,by omega,?_⟩,?_⟩
   ·dsimp only;rw[show((i+1:Nat):Int)+1=((i+1+1:Nat):Int) by omega,Bc (by omega)]
   ·dsimp only
    unfold S7
    rw[bd (show i+1<B.l.length by omega),de,iz,Po _ _ _ (by simp;intro h;rw[h]at hB;simp at hB)]
   ·dsimp only;rw[show((i+1:Nat):Int)+1=((i+1+1:Nat):Int) by omega,Bc (by omega)];omega
  ·right
   rw[qo (by rw[qp];omega)]
   exact⟨_,rfl,by rw[av (by omega)]⟩
 ·rintro _ rfl;rfl
def Zy:Nat→Nat→AG
 |0,_=>[]
 |k+1,n=>if n<16 then [hd n]else Zy k (n/16)++[hd (n%16)]
def PX(n:Nat):AG:=Zy 5 n
theorem fB: ∀(k n:Nat),n<16^(k+1)→Zy (k+2) n=Zy (k+1) n
 |0,n,h=>by
  have h:n<16:=by simpa using h
  simp[Zy,h]
 |k+1,n,h=>by
  by_cases hn:n<16
  ·simp[Zy,hn]
  ·have hd:n/16<16^(k+1):=by
    rw[fu (by decide),←gm];exact h
   have ih:=fB k (n/16) hd
   rw[Zy,qo hn,ih]
   conv=>rhs;rw[Zy,qo hn]
theorem jG{n:Nat}(h:n<65536):PX n=if n<16 then [hd n]else PX (n/16)++[hd (n%16)]:=by
 unfold PX
 rw[fB 3 (n/16) (by omega)]
 rfl
theorem nQ: ∀(k n:Nat),(Zy k n).length≤k
 |0,_=>by simp[Zy]
 |k+1,n=>by
  rw[Zy]
  split
  ·simp
  ·simp[nQ k]
theorem Uy(n:Nat):(PX n).length≤5:=nQ 5 n
theorem KU{m:Nat}(h:m<65536):(De (m:Int)).toNat=m:=by
 show(bw ((m:Int)%65536).toNat).toNat=m
 rw[show((m:Int)%65536).toNat=m by omega]
 simp[UInt16.toNat_ofNat,h]
theorem and15{x:Nat}(h:x<65536):FA .and .u16 (x:Int) ((15:UInt16).toNat:Int)=((x%16:Nat):Int):=by
 have h1:(cm 16 (x:Int)&&&cm 16 ((15:UInt16).toNat:Int)).toNat=x%16:=by
  rw[BitVec.toNat_and]
  have e1:(cm 16 (x:Int)).toNat=x:=by
   rw[gx];omega
  have e2:(cm 16 ((15:UInt16).toNat:Int)).toNat=2^4-1:=by decide
  rw[e1,e2,Nat.and_two_pow_sub_one_eq_mod]
 unfold FA
 show((cm 16 (x:Int)&&&cm 16 ((15:UInt16).toNat:Int)).toNat:Int)=_
 rw[h1]
theorem enc_hd: ∀k:Fin 16,zN ((hd k.1).toNat:Int)=[hd k.1]:=by decide+kernel
theorem shr16(x:UInt16): ∃y:UInt16,(if((4:UInt64).toNat:Int)<0 then none else some (De (jl (x.toNat:Int) (2^(min ((4:UInt64).toNat:Int).toNat 16)))))=some y∧y.toNat=x.toNat/16:=by
 refine⟨_,qo (by decide),?_⟩
 rw[show((2:Int)^(min ((4:UInt64).toNat:Int).toNat 16))=((16:Nat):Int)from rfl,←n4,KU]
 have:=x.toNat_lt;omega
theorem nL(n:UInt16):N1 n=some (PX n.toNat):=by
 unfold N1
 refine DK (fun s=>s.1.toNat) (fun s=>s.2.length≤10∧s.2.length+(PX s.1.toNat).length≤5∧PX n.toNat=PX s.1.toNat++s.2) (fun r=>r= .inr (PX n.toNat)) ⟨by simp,by simpa using Uy _,by simp⟩ ?_ ?_
 ·rintro⟨c,t⟩ ⟨h1,h2,h3⟩
  have hc:=c.toNat_lt
  dsimp only at h1 h2 h3 ⊢
  rw[and15 (by omega),KU (by omega),B5]
  have d:=VA ⟨c.toNat%16,by omega⟩
  obtain⟨y,f1,f2⟩:=shr16 c
  have hx:((if(zN ((hd (c.toNat%16)).toNat:Int)).length+t.length≤2*Bs then some (zN ((hd (c.toNat%16)).toNat:Int)++t)else none):Option AG)=some (hd (c.toNat%16)::t):=by
   rw[enc_hd ⟨c.toNat%16,by omega⟩,qn (by simp;unfold Bs;omega)];rfl
  have hg:=jG (n:=c.toNat) (by omega)
  by_cases hy:y.toNat=0
  ·right
   refine⟨.inr (PX n.toNat),?_,rfl⟩
   refine(qv (fun x:Option UInt8=>x.bind _) d).trans ?_
   rw[aa,hx,aa,f1,aa,qn (by rw[qp,hy];rfl)]
   rw[h3,hg,qn (by omega),kh (show c.toNat<16 by omega)]
   rfl
  ·left
   rw[qo (by omega)]at hg
   rw[hg,aw,gv,←f2]at h2
   refine⟨(y,hd (c.toNat%16)::t),?_,⟨by simp;omega,by simp;omega,?_⟩,by dsimp only;omega⟩
   ·refine(qv (fun x:Option UInt8=>x.bind _) d).trans ?_
    rw[aa,hx,aa,f1,aa,qo (by rw[qp];intro h;exact hy (by simpa using h))]
   ·dsimp only;rw[h3,hg,f2];simp
 ·rintro _ rfl;rfl
theorem W0: ∀(k n:Nat),n<65536→(D9 k (n:Int)=none∨D9 k (n:Int)=some (PX n))∧(n<16^(k+1)→D9 (k+1) (n:Int)=some (PX n)):=by
 have step: ∀(k n:Nat),n<65536→D9 (k+1) (n:Int)=if n<16 then some (PX n)else(D9 k ((n/16:Nat):Int)).bind fun x=>if x.length+1≤2*Bs then some (x++[hd (n%16)])else none:=by
  intro k n hn
  rw[D9]
  by_cases h:n<16
  ·rw[qn (by rw[qp];omega),qn h,I6 ⟨n,h⟩,jG hn,qn h];rfl
  ·have q1:ql qm (gc (n:Int) 16)=((n/16:Nat):Int):=by
    rw[show(16:Int)=((16:Nat):Int)from rfl,←iw,Bc (by omega)]
   have q2:gj (n:Int) 16=((n%16:Nat):Int):=by
    rw[show(16:Int)=((16:Nat):Int)from rfl,←k5]
   have d:=I6 ⟨n%16,by omega⟩
   dsimp only at d
   rw[qo (by rw[qp];omega),qo h,qo (by decide),aa,q1]
   congr 1
   funext x
   rw[qo (by decide),aa,q2,d,aa]
   by_cases hx:x.length+1≤2*Bs
   ·rw[qn (by simpa using hx),qn hx];rfl
   ·rw[qo (by simpa using hx),qo hx];rfl
 intro k
 induction k with
 |zero=>
  intro n hn
  refine⟨.inl rfl,fun h=> ?_⟩
  rw[step 0 n hn,qn (by simpa using h)]
 |succ k ih=>
  intro n hn
  have fin:D9 k ((n/16:Nat):Int)=some (PX (n/16))→ ¬n<16→D9 (k+1) (n:Int)=some (PX n):=fun e h=>by
   have hl:=Uy (n/16)
   rw[step k n hn,qo h,e,aa,qn (by unfold Bs;omega),jG hn,qo h]
  have fin': ∀k,D9 k ((n/16:Nat):Int)=some (PX (n/16))→ ¬n<16→D9 (k+1) (n:Int)=some (PX n):=fun k e h=>by
   have hl:=Uy (n/16)
   rw[step k n hn,qo h,e,aa,qn (by unfold Bs;omega),jG hn,qo h]
  constructor
  ·by_cases h:n<16
   ·right;rw[step k n hn,qn h]
   ·rcases(ih (n/16) (by omega)).1 with e|e
    ·left;rw[step k n hn,qo h,e];rfl
    ·right;exact fin e h
  ·intro hp
   by_cases h:n<16
   ·rw[step (k+1) n hn,qn h]
   ·refine fin' (k+1) ((ih (n/16) (by omega)).2 ?_) h
    rw[fu (by decide),←gm];exact hp
theorem xS(n:Nat)(h:n<65536):RH (n:Int)=some (PX n):=
 nW (fun k=>(W0 k n h).1) ((W0 4 n h).2 (by omega))
def G16(B:List UInt8)(i:Nat):Nat:=256*((B[2*i]?).getD 0).toNat+((B[2*i+1]?).getD 0).toNat
theorem G16_lt(B:List UInt8)(i:Nat):G16 B i<65536:=by
 have h1:=((B[2*i]?).getD 0).toNat_lt
 have h2:=((B[2*i+1]?).getD 0).toNat_lt
 unfold G16;omega
theorem or8{x y:Nat}(hx:x<256)(hy:y<256):FA .or .u64 ((256*x:Nat):Int) (y:Int)=((256*x+y:Nat):Int):=by
 show((cm 64 ((256*x:Nat):Int)|||cm 64 (y:Int)).toNat:Int)=_
 rw[nh]
 have e1:(cm 64 ((256*x:Nat):Int)).toNat=256*x:=by rw[gx];omega
 have e2:(cm 64 (y:Int)).toNat=y:=by rw[gx];omega
 rw[e1,e2,show 256*x=2^8*x from rfl,←j3 hy]
theorem shl8(x:UInt64)(h:x.toNat<256): ∃y:UInt64,(if((8:UInt64).toNat:Int)<0 then none else some (Cw ((x.toNat:Int)*2^(min ((8:UInt64).toNat:Int).toNat 64))))=some y∧y.toNat=256*x.toNat:=by
 refine⟨_,qo (by decide),?_⟩
 rw[show((2:Int)^(min ((8:UInt64).toNat:Int).toNat 64))=256 from rfl,show(x.toNat:Int)*256=((256*x.toNat:Nat):Int) by omega,Gr (by omega)]
theorem sized2(x y:UInt8):Mw (.mk [x,y])=some true:=by
 unfold Mw;rfl
end
section
theorem pS{n a b:Nat}(h:a≤b)(h':b≤n):Qr n (some (a:Int)) (some (b:Int))=some (a,b):=by
 simp[Qr,h,h']
theorem pR{n a:Nat}(h:a≤n):Qr n (some (a:Int)) none=some (a,n):=by
 simp[Qr,h]
theorem ofBig2(x y:UInt8): ∃v:UInt64,Mx (.mk [x,y])=some (v,0)∧v.toNat=256*x.toNat+y.toNat:=by
 have hx:=x.toNat_lt
 have hy:=y.toNat_lt
 obtain⟨z0,f0,g0⟩:=shl8 0 (by decide)
 have hx64:=Gr (m:=x.toNat) (by omega)
 have hy64:=Gr (m:=y.toNat) (by omega)
 have v1:(Cw (FA .or .u64 (z0.toNat:Int) ((Cw (x.toNat:Int)).toNat:Int))).toNat=x.toNat:=by
  rw[hx64,g0,show(0:UInt64).toNat=0 from rfl,or8 (x:=0) (by decide) (by omega),Nat.mul_zero,da,hx64]
 obtain⟨z1,f1,g1⟩:=shl8 (Cw (FA .or .u64 (z0.toNat:Int) ((Cw (x.toNat:Int)).toNat:Int))) (by omega)
 rw[v1]at g1
 refine⟨Cw (FA .or .u64 (z1.toNat:Int) ((Cw (y.toNat:Int)).toNat:Int)),?_,?_⟩
 ·unfold Mx
  rw[sized2,aa,qo (by decide)]
  rw[BN (s':=(Cw (FA .or .u64 (z0.toNat:Int) ((Cw (x.toNat:Int)).toNat:Int)),1)),BN (s':=(Cw (FA .or .u64 (z1.toNat:Int) ((Cw (y.toNat:Int)).toNat:Int)),2)),Bm (b:= .inl (Cw (FA .or .u64 (z1.toNat:Int) ((Cw (y.toNat:Int)).toNat:Int))))]
  ·rfl
  ·rfl
  ·dsimp only
   rw[qn (by simp),show Dj (GS.mk [x,y]).l 1=some y from rfl,aa,f1]
   rfl
  ·dsimp only
   rw[qn (by simp),show Dj (GS.mk [x,y]).l 0=some x from rfl,aa,f0]
   rfl
 ·rw[hy64,g1,or8 (by omega) (by omega),Gr (by omega)]
theorem two_of{l:List UInt8}{i:Nat}(h:2*i+1<l.length):(l.drop (2*i)).take (2*i+2-2*i)=[(l[2*i]?).getD 0,(l[2*i+1]?).getD 0]:=by
 rw[show 2*i+2-2*i=2 by omega,bk (show 2*i<l.length by omega),bk h,ad (show 2*i<l.length by omega),ad h]
 rfl
def vals(B:List UInt8):List Nat:=(ik 8).map (G16 B)
theorem VO(B:Ar UInt8 16): ∃G:Ar UInt16 8,My B=some G∧G.l.map (·.toNat)=vals B.l:=by
 have hB:=B.len
 unfold My
 refine jB (fun s=>8-s.1.toNat) (fun s=> ∃i:Nat,s.1=i∧i≤8∧(s.2.l.take i).map (·.toNat)=(ik i).map (G16 B.l)) (fun r=> ∃G:Ar UInt16 8,r= .inl G∧G.l.map (·.toNat)=vals B.l) ⟨0,rfl,by omega,rfl⟩ ?_ ?_
 ·rintro⟨s,A⟩ ⟨i,rfl,hi,hA⟩
  dsimp only at hA ⊢
  by_cases hlt:i<8
  ·left
   have w1:ql qm (2*(i:Int))=((2*i:Nat):Int):=by rw[show 2*(i:Int)=((2*i:Nat):Int) by omega,Bc (by omega)]
   have w2:ql qm (((2*i:Nat):Int)+2)=((2*i+2:Nat):Int):=by rw[show((2*i:Nat):Int)+2=((2*i+2:Nat):Int) by omega,Bc (by omega)]
   obtain⟨v,e,hv⟩:=ofBig2 ((B.l[2*i]?).getD 0) ((B.l[2*i+1]?).getD 0)
   have hg:=G16_lt B.l i
   have hv':v.toNat=G16 B.l i:=hv
   rw[qn (by rw[qp];omega),w1,w2,pS (by omega) (by omega),aa]
   dsimp only
   rw[qn (by omega),two_of (by omega),e,aa,BV hlt,aa,qn hlt,aa]
   refine⟨_,rfl,⟨i+1,?_,by omega,?_⟩,?_⟩
   ·dsimp only;rw[show(i:Int)+1=((i+1:Nat):Int) by omega,Bc (by omega)]
   ·dsimp only
    have:((A.set i (De (v.toNat:Int))).l.take (i+1))=A.l.take i++[De (v.toNat:Int)]:=RA (by rw[A.len];exact hlt) rfl
    rw[this,de,hA,List.range_succ,de,iz,iz,KU (by omega),hv']
   ·dsimp only;rw[show(i:Int)+1=((i+1:Nat):Int) by omega,Bc (by omega)];omega
  ·right
   rw[qo (by rw[qp];omega)]
   refine⟨_,rfl,A,rfl,?_⟩
   obtain rfl:i=8:=by omega
   rw[av (by rw[A.len];omega)]at hA
   exact hA
 ·rintro _ ⟨G,rfl,hG⟩
  exact⟨G,rfl,hG⟩
theorem YT(B:Ar UInt8 16): ∃G:Ar Int 8,OX B=some G∧G.l=(vals B.l).map fun n:Nat=>(n:Int):=by
 have hB:=B.len
 unfold OX
 refine jB (fun s=>8-s.1.toNat) (fun s=> ∃i:Nat,s.1=i∧i≤8∧s.2.l.take i=((ik i).map (G16 B.l)).map fun n:Nat=>(n:Int)) (fun r=> ∃G:Ar Int 8,r= .inl G∧G.l=(vals B.l).map fun n:Nat=>(n:Int)) ⟨0,rfl,by omega,rfl⟩ ?_ ?_
 ·rintro⟨s,A⟩ ⟨i,rfl,hi,hA⟩
  dsimp only at hA ⊢
  by_cases hlt:i<8
  ·left
   have w1:ql qm (2*(i:Int))=((2*i:Nat):Int):=by rw[show 2*(i:Int)=((2*i:Nat):Int) by omega,Bc (by omega)]
   have w2:ql qm (((2*i:Nat):Int)+1)=((2*i+1:Nat):Int):=by rw[show((2*i:Nat):Int)+1=((2*i+1:Nat):Int) by omega,Bc (by omega)]
   have h1:2*i<B.l.length:=by omega
   have h2:2*i+1<B.l.length:=by omega
   have b1:=B.l[2*i].toNat_lt
   have b2:=B.l[2*i+1].toNat_lt
   have hG:G16 B.l i=256*B.l[2*i].toNat+B.l[2*i+1].toNat:=by
    unfold G16;rw[ad h1,ad h2];rfl
   have e1:ql qm (ql qm (256*ql qm (B.l[2*i].toNat:Int))+ql qm (B.l[2*i+1].toNat:Int))=(G16 B.l i:Int):=by
    rw[Bc (by omega),Bc (by omega),show 256*(B.l[2*i].toNat:Int)=((256*B.l[2*i].toNat:Nat):Int) by omega,Bc (by omega),←ng,Bc (by omega),hG]
   rw[qn (by rw[qp];omega),w1,w2,BV (by omega),aa,ad h1,aa,BV (by omega),aa,ad h2,aa,e1,BV hlt,aa,qn hlt,aa]
   refine⟨_,rfl,⟨i+1,?_,by omega,?_⟩,?_⟩
   ·dsimp only;rw[show(i:Int)+1=((i+1:Nat):Int) by omega,Bc (by omega)]
   ·dsimp only
    have:((A.set i (G16 B.l i:Int)).l.take (i+1))=A.l.take i++[(G16 B.l i:Int)]:=RA (by rw[A.len];exact hlt) rfl
    rw[this,hA,List.range_succ,de,de];rfl
   ·dsimp only;rw[show(i:Int)+1=((i+1:Nat):Int) by omega,Bc (by omega)];omega
  ·right
   rw[qo (by rw[qp];omega)]
   refine⟨_,rfl,A,rfl,?_⟩
   obtain rfl:i=8:=by omega
   rw[av (by rw[A.len];omega)]at hA
   exact hA
 ·rintro _ ⟨G,rfl,hG⟩
  exact⟨G,rfl,hG⟩
def Mk:List Bool→Nat→Nat→Nat→Nat→Nat×Nat
 |[],_,p,z,_=>(p,z)
 |b::l,i,p,z,w=>if b then(if z<w+1 then Mk l (i+1) (i+1-(w+1)) (w+1) (w+1)else Mk l (i+1) p z (w+1))else Mk l (i+1) p z 0
def YL:List Bool→Nat
 |[]=>0
 |b::l=>if b then YL l+1 else 0
theorem vC: ∀l,YL l≤l.length
 |[]=>be _
 |b::l=>by have:=vC l;cases b<;>simp[YL];omega
theorem vD: ∀(l:List Bool) (k:Nat),k<YL l→l[k]? =some true
 |[],k,h=>by simp[YL]at h
 |false::l,k,h=>by simp[YL]at h
 |true::l,0,_=>rfl
 |true::l,k+1,h=>by simp only[YL,qt]at h;simpa using vD l k (by omega)
theorem mF: ∀(l:List Bool),YL l<l.length→l[YL l]? =some false
 |[],h=>by simp at h
 |false::l,_=>rfl
 |true::l,h=>by simp only[YL,qt,bb]at h ⊢;simpa using mF l (by omega)
def OT(l:List Bool)(i:Nat):Nat:=YL (l.drop i)
def sC(l:List Bool):Nat→Nat→Nat→Nat→Nat×Nat
 |0,_,p,z=>(p,z)
 |k+1,i,p,z=>if z<OT l i then sC l k (i+1) i (OT l i)else sC l k (i+1) p z
theorem lon_same: ∀a b c d e f g h:Bool,Mk [a,b,c,d,e,f,g,h] 0 0 0 0=sC [a,b,c,d,e,f,g,h] 8 0 0 0∧(Mk [a,b,c,d,e,f,g,h] 0 0 0 0).1+(Mk [a,b,c,d,e,f,g,h] 0 0 0 0).2≤8:=by decide+kernel
theorem nD{l:List Bool}(h:l.length=8):Mk l 0 0 0 0=sC l 8 0 0 0∧(Mk l 0 0 0 0).1+(Mk l 0 0 0 0).2≤8:=by
 match l,h with
 |[a,b,c,d,e,f,g,h],_=>exact lon_same a b c d e f g h
def M9(l:List Nat):List Bool:=l.map fun n=>decide (n=0)
theorem nC(G:Ar UInt16 8):Lk G=some (((Mk (M9 (G.l.map (·.toNat))) 0 0 0 0).1:Int),((Mk (M9 (G.l.map (·.toNat))) 0 0 0 0).2:Int)):=by
 have hG:=G.len
 unfold Lk
 refine DK (fun s=>8-s.2.2.2.toNat) (fun s=> ∃p z w i:Nat,s=((p:Int),(z:Int),(w:Int),(i:Int))∧i≤8∧w≤i∧Mk (M9 (G.l.map (·.toNat))) 0 0 0 0=Mk ((M9 (G.l.map (·.toNat))).drop i) i p z w)
  (fun r=>r= .inl (((Mk (M9 (G.l.map (·.toNat))) 0 0 0 0).1:Int),((Mk (M9 (G.l.map (·.toNat))) 0 0 0 0).2:Int))) ⟨0,0,0,0,rfl,by omega,by omega,rfl⟩ ?_ ?_
 ·rintro _ ⟨p,z,w,i,rfl,hi,hw,he⟩
  dsimp only
  by_cases hlt:i<8
  ·left
   have hz:(M9 (G.l.map (·.toNat))).drop i=decide (G.l[i].toNat=0)::(M9 (G.l.map (·.toNat))).drop (i+1):=by
    rw[bk (by simp[M9];omega)];simp[M9]
   rw[hz,Mk]at he
   rw[qn (by rw[qp];omega),B5,ad (show i<G.l.length by omega),aa]
   have w1:ql qm ((i:Int)+1)=((i+1:Nat):Int):=by rw[show(i:Int)+1=((i+1:Nat):Int) by omega,Bc (by omega)]
   have w2:ql qm ((w:Int)+1)=((w+1:Nat):Int):=by rw[show(w:Int)+1=((w+1:Nat):Int) by omega,Bc (by omega)]
   rw[w1,w2]
   by_cases h0:G.l[i].toNat=0
   ·rw[qo (by rw[h0];decide)]
    rw[qn (by simpa using h0)]at he
    by_cases h1:z<w+1
    ·rw[qn (by rw[qp];omega)]
     rw[qn h1]at he
     have w3:ql qm (((i+1:Nat):Int)-((w+1:Nat):Int))=((i+1-(w+1):Nat):Int):=by rw[show((i+1:Nat):Int)-((w+1:Nat):Int)=((i+1-(w+1):Nat):Int) by omega,Bc (by omega)]
     rw[w3]
     exact⟨_,rfl,⟨_,_,_,_,rfl,by omega,by omega,he⟩,by dsimp only;omega⟩
    ·rw[qo (by rw[qp];omega)]
     rw[qo h1]at he
     exact⟨_,rfl,⟨_,_,_,_,rfl,by omega,by omega,he⟩,by dsimp only;omega⟩
   ·rw[qn (by rw[show((0:UInt16).toNat:Int)=0 from rfl];simp;omega)]
    rw[qo (by simpa using h0)]at he
    exact⟨_,rfl,⟨p,z,0,_,rfl,by omega,by omega,he⟩,by dsimp only;omega⟩
  ·right
   rw[qo (by rw[qp];omega)]
   obtain rfl:i=8:=by omega
   rw[ce (by simp[M9,hG])]at he
   exact⟨_,rfl,by rw[he];rfl⟩
 ·rintro _ rfl;rfl
theorem mK(G:Ar Int 8)(l:List Nat)(hG:G.l=l.map fun n:Nat=>(n:Int))(i:Nat)(hi:i≤8):Ug G (i:Int)=some (OT (M9 l) i:Int):=by
 have hl:l.length=8:=by have:=G.len;rw[hG]at this;simpa using this
 unfold Ug
 have hd:((M9 l).drop i).length=8-i:=by simp[M9,hl]
 have hle:OT (M9 l) i+i≤8:=by
  have:=vC ((M9 l).drop i)
  unfold OT;omega
 have hall: ∀k,k<OT (M9 l) i→l[i+k]? =some 0:=by
  intro k hk
  have h2:=vD _ k hk
  rw[eo]at h2
  simp only[M9,ff]at h2
  obtain⟨x,hx,e⟩:=aj.1 h2
  rw[hx];simpa using e
 have hend:i+OT (M9 l) i<8→ ∃x,l[i+OT (M9 l) i]? =some x∧x≠0:=by
  intro hlt
  have h2:=mF ((M9 l).drop i) (by unfold OT at hlt;omega)
  rw[eo]at h2
  have h3:(M9 l)[i+OT (M9 l) i]? =some false:=h2
  generalize OT (M9 l) i=m at h3 ⊢
  simp only[M9,ff]at h3
  obtain⟨x,hx,e⟩:=aj.1 h3
  exact⟨x,hx,by simpa using e⟩
 refine DK (fun s=>8-s.toNat) (fun s=> ∃k:Nat,s=k∧k≤OT (M9 l) i) (fun r=>r= .inl (OT (M9 l) i:Int)) ⟨0,rfl,by omega⟩ ?_ ?_
 ·rintro _ ⟨k,rfl,hk⟩
  have w1:ql qm ((i:Int)+(k:Int))=((i+k:Nat):Int):=by rw[←ng,Bc (by omega)]
  rw[w1]
  have hget: ∀x,l[i+k]? =some x→i+k<8→((BU 8 ((i+k:Nat):Int)).bind fun x6=>(G.l[x6]?).bind fun x7=>some (decide (x7=0)))=some (decide (x=0)):=by
   intro x hx hlt
   rw[BV hlt,aa,hG,ff,hx,an,aa]
   simp
  rcases dq k (OT (M9 l) i)with hlt|hge
  ·left
   rw[qq (show((i+k:Nat):Int)<8 by omega),hget 0 (hall k hlt) (by omega)]
   refine⟨((k+1:Nat):Int),?_,⟨k+1,rfl,hlt⟩,by omega⟩
   show some (Sum.inl (ql qm ((k:Int)+1)))=_
   rw[show(k:Int)+1=((k+1:Nat):Int) by omega,Bc (by omega)]
  ·right
   obtain rfl:k=OT (M9 l) i:=by omega
   refine⟨_,?_,rfl⟩
   rcases dq (i+OT (M9 l) i) 8 with h8|h8
   ·obtain⟨x,hx,hne⟩:=hend h8
    rw[qq (show((i+OT (M9 l) i:Nat):Int)<8 by omega),hget x hx h8,qr hne]
    rfl
   ·rw[qr (show¬((i+OT (M9 l) i:Nat):Int)<8 by omega)]
    rfl
 ·rintro _ rfl;rfl
def Xz(l:List Nat):AG:=Ds [58] (l.map PX)
theorem J9(l:List Nat):(Xz l).length≤6*l.length:=by
 unfold Xz
 rw[Hv]
 have:=Ym (l:=l.map PX) (n:=5) (fun x hx=>by obtain⟨b,_,rfl⟩:=ls.1 hx;exact Uy _)
 simp at this ⊢
 omega
theorem NQ(g:GS UInt16)(hg:g.l.length≤8):M6 g=some (Xz (g.l.map (·.toNat))):=by
 unfold M6
 refine DK (fun s=>g.l.length-s.1.toNat) (fun s=> ∃i:Nat,s.1=i∧i≤g.l.length∧s.2=O6 ((g.l.take i).map fun x=>PX x.toNat)) (fun r=>r= .inl (O6 (g.l.map fun x=>PX x.toNat))) ⟨0,rfl,by omega,rfl⟩ ?_ ?_
 ·rintro⟨s,t⟩ ⟨i,rfl,hi,rfl⟩
  dsimp only
  by_cases hlt:i<g.l.length
  ·left
   rw[qn (by rw[qp];omega),B5,ad hlt,aa,nL,aa,PK (by rw[L1,e9,a6];unfold Bs;omega),aa]
   refine⟨_,rfl,⟨i+1,?_,by omega,?_⟩,?_⟩
   ·dsimp only;rw[show(i:Int)+1=((i+1:Nat):Int) by omega,Bc (by omega)]
   ·dsimp only;rw[L1,bd hlt,de,iz,Z1]
   ·dsimp only;rw[show(i:Int)+1=((i+1:Nat):Int) by omega,Bc (by omega)];omega
  ·right
   rw[qo (by rw[qp];omega)]
   exact⟨_,rfl,by rw[av (by omega)]⟩
 ·rintro _ rfl
  dsimp only[fj]
  have hl:=J9 (g.l.map (·.toNat))
  have he:(O6 (g.l.map fun x=>PX x.toNat)).l=(g.l.map (·.toNat)).map PX:=by rw[L1,na];rfl
  rw[e9]at hl
  have hj:=QL (O6 (g.l.map fun x=>PX x.toNat)) [58] (by rw[he];simp;omega) (by decide) (by rw[he];exact jr hl (by omega))
  rw[hj,he];rfl
theorem QA(G:Ar Int 8)(l:List Nat)(hG:G.l=l.map fun n:Nat=>(n:Int))(hb: ∀n∈l,n<65536)(a b:Nat)(hab:a≤b)(h8:b≤8):RD G (a:Int) (b:Int)=some (Xz ((l.take b).drop a)):=by
 have hl:l.length=8:=by have:=G.len;rw[hG]at this;simpa using this
 unfold RD
 refine DK (fun s=>b-s.2.toNat) (fun s=> ∃i:Nat,s.2=i∧a≤i∧i≤b∧s.1=Xz ((l.take i).drop a)) (fun r=>r= .inl (Xz ((l.take b).drop a))) ⟨a,rfl,by omega,hab,by rw[ce (by rw[a6];omega)];rfl⟩ ?_ ?_
 ·rintro⟨t,s⟩ ⟨i,rfl,hi,hib,rfl⟩
  dsimp only
  have hln:=J9 ((l.take i).drop a)
  rw[bh,a6]at hln
  by_cases hlt:i<b
  ·left
   have hil:i<l.length:=by omega
   have hgl:=Uy l[i]
   rw[qn (by rw[qp];omega)]
   have hnext:(l.take (i+1)).drop a=(l.take i).drop a++[l[i]]:=by
    rw[bd hil,dn (by rw[a6];omega)]
   have hgrp:RH ((l[i]:Nat):Int)=some (PX l[i]):=xS _ (hb _ (kl hil))
   have hGi:G.l[i]? =some ((l[i]:Nat):Int):=by rw[hG,ff,ad hil];rfl
   refine⟨(Xz ((l.take (i+1)).drop a),((i+1:Nat):Int)),?_,⟨i+1,rfl,by omega,by omega,rfl⟩,by dsimp only;omega⟩
   by_cases hai:a<i
   ·rw[qn (by rw[qp];omega),qn (by simp;unfold Bs;omega),aa,aa]
    dsimp only[fj]
    rw[BV (by omega),aa,hGi,aa,hgrp,aa,qn (by simp;unfold Bs;omega),aa,hnext]
    unfold Xz
    rw[de,iz,Po _ _ _ (by
     intro h
     have:=qv f8 h
     simp at this
     omega),show(i:Int)+1=((i+1:Nat):Int) by omega,Bc (by omega)]
   ·rw[qo (by rw[qp];omega),aa]
    dsimp only[fj]
    obtain rfl:a=i:=by omega
    have hnil:Xz ((l.take a).drop a)=[]:=by rw[ce (by rw[a6];omega)];rfl
    rw[hnil,BV (by omega),aa,hGi,aa,hgrp,aa,qn (by simp;unfold Bs;omega),aa,hnext,ce (by rw[a6];omega),show(a:Int)+1=((a+1:Nat):Int) by omega,Bc (by omega)]
    rfl
  ·right
   rw[qo (by rw[qp];omega)]
   obtain rfl:i=b:=by omega
   exact⟨_,rfl,rfl⟩
 ·rintro _ rfl;rfl
def tR(B:List UInt8):AG:=
 let v:=vals B
 let q:=Mk (M9 v) 0 0 0 0
 if q.2<2 then Xz v else Xz (v.take q.1)++[58,58]++Xz (v.drop (q.1+q.2))
theorem Iz(B:List UInt8):(vals B).length=8:=by simp[vals]
theorem gE(B:List UInt8): ∀n∈vals B,n<65536:=fun n hn=>by
 obtain⟨i,_,rfl⟩:=ls.1 hn;exact G16_lt B i
theorem colT_len(B:List UInt8):(tR B).length≤100:=by
 unfold tR
 dsimp only
 split
 ·have:=J9 (vals B);rw[Iz]at this;omega
 ·rename_i h
  have h1:=J9 ((vals B).take (Mk (M9 (vals B)) 0 0 0 0).1)
  have h2:=J9 ((vals B).drop ((Mk (M9 (vals B)) 0 0 0 0).1+(Mk (M9 (vals B)) 0 0 0 0).2))
  rw[a6,Iz]at h1
  rw[bh,Iz]at h2
  simp only[aw,bb,bz]
  omega
theorem tQ(B:Ar UInt8 16):Pz B=some (tR B.l):=by
 obtain⟨G,e1,hG⟩:=VO B
 have hGl:=G.len
 have e2:=nC G
 rw[hG]at e2
 obtain⟨_,hq⟩:=nD (l:=M9 (vals B.l)) (by simp[M9,Iz])
 unfold Pz tR
 rw[e1,aa,e2,aa]
 dsimp only
 generalize Mk (M9 (vals B.l)) 0 0 0 0=q at*
 obtain⟨p,z⟩:=q
 dsimp only at*
 by_cases h:z<2
 ·rw[qn (by rw[qp];omega),qn h,qn (by decide),db,av (by omega),NQ _ (by simp;omega),Es,hG]
  rfl
 ·have hr1:=NQ (.mk (G.l.take p)) (by simp;omega)
  have hr2:=NQ (.mk (G.l.drop (p+z))) (by simp;omega)
  rw[Es,oo,hG]at hr1
  rw[Es,List.map_drop,hG]at hr2
  have l1:=J9 ((vals B.l).take p)
  have l2:=J9 ((vals B.l).drop (p+z))
  rw[a6,Iz]at l1
  rw[bh,Iz]at l2
  rw[qo (by rw[qp];omega),qo h,tW (by omega),aa,qn (by omega),db,hr1,aa,qn (by simp;unfold Bs;omega),aa,
   show(p:Int)+(z:Int)=((p+z:Nat):Int) by omega,Bc (by omega),pR (by omega),aa]
  dsimp only
  rw[qn (by omega),av (by rw[bh];omega),hr2,aa,qn (by simp;unfold Bs;omega)]
  rfl
theorem r09_text(B:Ar UInt8 16):Uh B=some (tR B.l):=by
 obtain⟨G,e1,hG⟩:=YT B
 obtain⟨hAB,hq⟩:=nD (l:=M9 (vals B.l)) (by simp[M9,Iz])
 have hv:=Iz B.l
 generalize hR:sC (M9 (vals B.l)) 8 0 0 0=R at*
 unfold Uh
 rw[e1,aa]
 refine DK (fun s=>8-s.2.2.toNat) (fun s=> ∃p z i:Nat,s=((p:Int),(z:Int),(i:Int))∧i≤8∧R=sC (M9 (vals B.l)) (8-i) i p z)
  (fun r=>r= .inl (((Mk (M9 (vals B.l)) 0 0 0 0).1:Int),((Mk (M9 (vals B.l)) 0 0 0 0).2:Int))) ⟨0,0,0,rfl,by omega,hR.symm⟩ ?_ ?_
 ·rintro _ ⟨p,z,i,rfl,hi,he⟩
  dsimp only
  by_cases hlt:i<8
  ·left
   have w1:ql qm ((i:Int)+1)=((i+1:Nat):Int):=by rw[show(i:Int)+1=((i+1:Nat):Int) by omega,Bc (by omega)]
   rw[qn (by rw[qp];omega),mK G _ hG i (by omega),aa,w1]
   rw[show 8-i=(8-(i+1))+1 by omega,sC]at he
   by_cases h:z<OT (M9 (vals B.l)) i
   ·rw[qn (by rw[qp];omega),aa]
    rw[qn h]at he
    exact⟨_,rfl,⟨_,_,_,rfl,by omega,he⟩,by dsimp only;omega⟩
   ·rw[qo (by rw[qp];omega)]
    rw[qo h]at he
    exact⟨_,rfl,⟨_,_,_,rfl,by omega,he⟩,by dsimp only;omega⟩
  ·right
   rw[qo (by rw[qp];omega)]
   obtain rfl:i=8:=by omega
   refine⟨_,rfl,?_⟩
   rw[hAB,he];rfl
 ·rintro _ rfl
  dsimp only[fj]
  unfold tR
  dsimp only
  generalize Mk (M9 (vals B.l)) 0 0 0 0=q at*
  obtain⟨p,z⟩:=q
  dsimp only at*
  have l1:=J9 ((vals B.l).take p)
  have l2:=J9 ((vals B.l).drop (p+z))
  rw[a6,Iz]at l1
  rw[bh,Iz]at l2
  have hr0:=QA G _ hG (gE B.l) 0 8 (by omega) (by omega)
  rw[db,av (by omega)]at hr0
  by_cases h:z<2
  ·rw[qn (by rw[qp];omega),qn h]
   exact(qv (fun x:Option AG=>x.bind fun y=>some y) hr0)
  ·have hr1:=QA G _ hG (gE B.l) 0 p (by omega) (by omega)
   have hr2:=QA G _ hG (gE B.l) (p+z) 8 (by omega) (by omega)
   rw[db]at hr1
   rw[av (show(vals B.l).length≤8 by omega)]at hr2
   rw[qo (by rw[qp];omega),qo h,show(p:Int)+(z:Int)=((p+z:Nat):Int) by omega,Bc (by omega)]
   refine(qv (fun x:Option AG=>x.bind _) hr1).trans ?_
   rw[aa,qn (by simp;unfold Bs;omega),aa]
   refine(qv (fun x:Option AG=>x.bind _) hr2).trans ?_
   rw[aa,qn (by simp;unfold Bs;omega)]
   rfl
end
section
abbrev zK:Ar UInt8 32:=(ak 32 a7).z
def Xc(a:AX):AG:=if Gc a=true then(if a.V=4 then S7 (a.B.l.take 4)else tR a.B.l)else []
theorem Wh(a:AX):(Xc a).length≤100:=by
 unfold Xc
 split
 ·split
  ·have:=Vx (a.B.l.take 4);rw[a6]at this;omega
  ·exact colT_len _
 ·simp
theorem YN{a:AX}(h:Gc a=true)(h4: ¬a.V=4):a.V=6:=by
 unfold Gc at h
 rw[qp]at h
 rcases h with h|h
 ·exact h
 ·exact absurd h.1 h4
theorem zX(a:AX):OI a=some (Xc a):=by
 unfold OI Xc
 rw[TJ,aa]
 by_cases h:Gc a=true
 ·rw[h,qo (by decide),qn rfl]
  by_cases h4:a.V=4
  ·rw[qn (by rw[qp];exact h4),qn h4]
   exact qv (fun x:Option AG=>x.bind fun y=>some y) (xT _)
  ·rw[qo (by rw[qp];exact h4),qo h4,tQ];rfl
 ·rw[qo h]
  have h':Gc a=false:=by simpa using h
  rw[h',qn (by decide)]
theorem r10_text(a:AX):Q9 a=some (Xc a):=by
 unfold Q9 Xc
 rw[dZ,aa]
 have hB:=a.B.len
 by_cases h:Gc a=true
 ·rw[h,qo (by decide),qn rfl]
  by_cases h4:a.V=4
  ·rw[qo (by rw[qp];omega),qn h4]
   have g: ∀i:Nat,i<16→((BU 16 (i:Int)).bind fun x=>a.B.l[x]?)=some ((a.B.l[i]?).getD 0):=fun i hi=>by
    rw[BV hi,aa,ad (by omega)];rfl
   have e:[(a.B.l[0]?).getD 0,(a.B.l[1]?).getD 0,(a.B.l[2]?).getD 0,(a.B.l[3]?).getD 0]=a.B.l.take 4:=by
    match hl:a.B.l,hB with
    |b0::b1::b2::b3::r,_=>rfl
   have h0:a.B.l[0]? =some ((a.B.l[0]?).getD 0):=by rw[ad (by omega)];rfl
   have h1:a.B.l[1]? =some ((a.B.l[1]?).getD 0):=by rw[ad (by omega)];rfl
   have h2:a.B.l[2]? =some ((a.B.l[2]?).getD 0):=by rw[ad (by omega)];rfl
   have h3:a.B.l[3]? =some ((a.B.l[3]?).getD 0):=by rw[ad (by omega)];rfl
   rw[show(0:Int)=((0:Nat):Int)from rfl,BV (by decide),aa,h0,aa,show(1:Int)=((1:Nat):Int)from rfl,BV (by decide),aa,h1,aa,
    show(2:Int)=((2:Nat):Int)from rfl,BV (by decide),aa,h2,aa,show(3:Int)=((3:Nat):Int)from rfl,BV (by decide),aa,h3,aa,r08_text]
   exact qv (fun l=>some (S7 l)) e
  ·rw[qn (by rw[qp];exact YN h h4),qo h4,r09_text];rfl
 ·rw[qo h]
  have h':Gc a=false:=by simpa using h
  rw[h',qn (by decide)]
def O3(e:AI):AG:=if Ji e=true then(if e.A.V=6 then [91]++Xc e.A++[93,58]++J4 e.Port.toNat else Xc e.A++[58]++J4 e.Port.toNat)else []
theorem V9(e:AI):(O3 e).length≤130:=by
 have h1:=Wh e.A
 have h2:=Kg e.Port.toNat
 unfold O3
 split
 ·split<;>simp<;>omega
 ·simp
theorem Wz{e:AI}(h:Ji e=true):Gc e.A=true∧1≤e.Port∧e.Port≤65535:=by
 unfold Ji at h
 simpa [af]using h
theorem Un{p:Int}(h:0≤p)(h':p<18446744073709551616):(Cw p).toNat=p.toNat:=by
 have:=Gr (m:=p.toNat) (by omega)
 rwa [ol h]at this
theorem yT(e:AI):KZ e=some (O3 e):=by
 unfold KZ O3
 have hl:=Wh e.A
 have hd:=Kg e.Port.toNat
 rw[Tk,aa]
 by_cases h:Ji e=true
 ·obtain⟨hA,p1,p2⟩:=Wz h
  have hp:FZ (Cw e.Port)=some (J4 e.Port.toNat):=by rw[Px,Un (by omega) (by omega)]
  rw[h,qo (by decide),qn rfl,hp,aa,uE,aa,zX]
  have hw:(32:Int)<(gC e.A:Int)↔e.A.V=6:=by
   unfold gC
   rw[qn hA]
   by_cases h4:e.A.V=4
   ·rw[qn h4];omega
   ·rw[qo h4];have:=YN hA h4;omega
  by_cases h6:e.A.V=6
  ·rw[qn (by rw[qp];exact hw.2 h6),qn h6,aa,qn (by simp;unfold Bs;omega),aa,qn (by simp;unfold Bs;omega),aa,qn (by simp;unfold Bs;omega)]
   rfl
  ·rw[qo (by rw[qp];exact fun g=>h6 (hw.1 g)),qo h6,aa,qn (by simp;unfold Bs;omega),aa,qn (by simp;unfold Bs;omega)]
   rfl
 ·rw[qo h]
  have h':Ji e=false:=by simpa using h
  rw[h',qn (by decide)]
theorem r12_text(e:AI):Q8 e=some (O3 e):=by
 unfold Q8 O3
 have hl:=Wh e.A
 have hd:=Kg e.Port.toNat
 rw[Vu,aa]
 by_cases h:Ji e=true
 ·obtain⟨hA,p1,p2⟩:=Wz h
  have hp:JB (Cw e.Port)=some (J4 e.Port.toNat):=by rw[iP,Un (by omega) (by omega)]
  rw[h,qo (by decide),qn rfl,hp,aa,qn (by simp;unfold Bs;omega),aa,r10_text]
  by_cases h6:e.A.V=6
  ·rw[qn (by rw[qp];exact h6),qn h6,aa,qn (by simp;unfold Bs;omega),aa,qn (by simp;unfold Bs;omega),aa,qn (by simp;unfold Bs;omega)]
   simp
  ·rw[qo (by rw[qp];exact h6),qo h6,aa,qn (by simp;unfold Bs;omega)]
   simp
 ·rw[qo h]
  have h':Ji e=false:=by simpa using h
  rw[h',qn (by decide)]
end
section
def NJ(c:UInt8):Bool:=decide (48≤c.toNat∧c.toNat≤57)
def Md(n:Nat)(s:AG):Nat:=s.foldl (fun n c=>10*n+(c.toNat-48)) n
def DV(s:AG)(m:Nat):Nat×Int:=
 if s=[]∨s.all NJ=false∨(1<s.length∧s[0]? =some 48)then(0,5)else if m<Md 0 s then(0,6)else(Md 0 s,0)
def Jm(c:UInt8):Option Nat:=if 48≤c.toNat∧c.toNat≤57 then some (c.toNat-48)else if 97≤c.toNat∧c.toNat≤102 then some (c.toNat-87)else none
def Qn:AG→Option (List UInt8)
 |[]=>some []
 |[_]=>none
 |a::b::l=>(Jm a).bind fun x=>(Jm b).bind fun y=>(Qn l).map fun r=>bc (16*x+y)::r
def uC(l:List UInt8):Ar UInt8 32:=if h:l.length=32 then⟨l,h⟩else zK
def O0(v:AG):Ar UInt8 32×Int:=match Qn v with
 |none=>(zK,5)
 |some l=>if l.length<32 then(zK,3)else if 32<l.length then(zK,4)else(uC l,0)
def V3(c:UInt8):UInt8:=if 65≤c.toNat∧c.toNat≤70 then bc (c.toNat+32)else c
def Yi(n:Nat):AG→Option Nat
 |[]=>some n
 |c::l=>(Jm (V3 c)).bind fun v=>Yi (16*n+v) l
def YS(s:AG):Option Nat:=if 1≤s.length∧s.length≤4 then Yi 0 s else none
def Nn:List AG→Int
 |[]=>0
 |x::l=>if(DV x 255).2=0 then Nn l else(DV x 255).2
def zero4:List UInt8:=[0,0,0,0]
def DG(s:AG):List UInt8×Int:=
 if(AK 46 s).length=4 then(if Nn (AK 46 s)=0 then((AK 46 s).map fun x=>bc (DV x 255).1,0)else(zero4,Nn (AK 46 s)))else(zero4,5)
def It:AG→Option (AG×AG)
 |[]=>none
 |[_]=>none
 |a::b::r=>if a=58∧b=58 then some ([],r)else(It (b::r)).map fun p=>(a::p.1,p.2)
def DM(last:Bool):List AG→Option (List Nat)
 |[]=>some []
 |x::r=>match YS x with
  |some n=>(DM last r).map fun l=>n::l
  |none=>if r=[]∧last=true∧(DG x).2=0 then some [256*((DG x).1.getD 0 0).toNat+((DG x).1.getD 1 0).toNat,256*((DG x).1.getD 2 0).toNat+((DG x).1.getD 3 0).toNat]else none
def JD(last:Bool)(s:AG):Option (List Nat):=if s=[]then some []else DM last (AK 58 s)
def Wc(l:List Nat):List UInt8:=l.flatMap fun n=>[bc (n/256),bc (n%256)]
def pK(s:AG):Option (List UInt8):=
 match It s with
 |none=>(JD true s).bind fun l=>if l.length=8 then some (Wc l)else none
 |some (a,b)=>(JD false a).bind fun l=>(JD true b).bind fun m=>if l.length+m.length≤7 then some (Wc (l++aq (8-l.length-m.length) 0++m))else none
def Flat(s:AG):Prop:=It s=none∧ ∀m,s≠m++[58]
theorem fD: ∀{s:AG},(58:UInt8)∉s→Flat s
 |[],_=>⟨rfl,fun m e=>by simp at e⟩
 |[a],h=>⟨rfl,fun m e=>by
   rcases List.append_eq_singleton_iff.1 e.symm with ⟨_,e⟩|⟨_,e⟩
   ·exact h (by rw[gy e |>.1];simp)
   ·cases e⟩
 |a::b::s,h=>by
  have ih:=fD (s:=b::s) (fun x=>h (bg _ x))
  refine⟨?_,fun m e=> ?_⟩
  ·rw[It,qo (fun e=>h (by simp[e.1])),ih.1];rfl
  ·exact h (by rw[e];simp)
def dH(l:List UInt8):Ar UInt8 16:=if h:l.length=16 then⟨l,h⟩else⟨aq 16 0,rfl⟩
def zA:AX:=⟨0,⟨aq 16 0,rfl⟩⟩
def Qg(s:AG):AX×Int:=
 if(58:UInt8)∈s then(match pK s with|some l=>(⟨6,dH l⟩,0)|none=>(zA,5))
 else if(DG s).2=0 then(⟨4,dH ((DG s).1++aq 12 0)⟩,0)else(zA,(DG s).2)
def cY(c:UInt8)(s:AG):AG×AG×Bool:=if c∈s then(s.takeWhile (fun x=>x != c),(s.dropWhile (fun x=>x != c)).drop 1,true)else(s,[],false)
theorem pG{c:UInt8}{p q:AG}(h:c∉p):cY c (p++c::q)=(p,q,true):=by
 unfold cY
 have h1: ∀x∈p,(x != c)=true:=fun x hx=>by simp;rintro rfl;exact h hx
 rw[qn (by simp),List.takeWhile_append_of_pos h1,List.dropWhile_append_of_pos h1]
 simp
def So:AG→Option (AG×AG)
 |[]=>none
 |[_]=>none
 |a::b::r=>if a=93∧b=58 then some ([],r)else(So (b::r)).map fun p=>(a::p.1,p.2)
def eX(s:AG):Option (AG×AG):=
 if s.head?=some 91 then(So (s.drop 1)).bind fun p=>if(58:UInt8)∈p.1 then some p else none
 else if(58:UInt8)∈s then some ((cY 58 s).1,(cY 58 s).2.1)else none
def C8:AI:=⟨zA,0⟩
def IE(s:AG):AI×Int:=
 match eX s with
 |none=>(C8,5)
 |some (h,p)=>if(Qg h).2=0 then(if(DV p 65535).2=0 then(if(DV p 65535).1=0 then(C8,6)else(⟨(Qg h).1,(DV p 65535).1⟩,0))else(C8,(DV p 65535).2))else(C8,(Qg h).2)
end
section
theorem UV(n:Nat)(c:UInt8)(s:AG):Md n (c::s)=Md (10*n+(c.toNat-48)) s:=by unfold Md;rw[ll]
theorem uS(s:AG): ∀n:Nat,n≤Md n s:=by
 induction s with
 |nil=>exact fun n=>be n
 |cons c s ih=>
  intro n
  have h:=ih (10*n+(c.toNat-48))
  rw[UV]
  exact dy (by omega) h
theorem Zc(M:Nat)(hM:M=18446744073709551615): ∀(s:AG) (n:Nat),n≤M→s.all NJ=true→Lib.parseUintM M n s=if M<Md n s then .range else .ok (Md n s)
 |[],n,hn,_=>by
  rw[Lib.parseUintM,show Md n []=n from rfl,qo (by omega)]
 |c::s,n,hn,h=>by
  simp only[fc,af]at h
  have hc:48≤c.toNat∧c.toNat≤57:=by simpa [NJ]using h.1
  have hg:=uS s (10*n+(c.toNat-48))
  rw[Lib.parseUintM,qn hc,UV]
  by_cases h1:1844674407370955162≤n
  ·rw[qn h1,qn (by omega)]
  ·rw[qo h1]
   by_cases h2:M<n*10+(c.toNat-48)
   ·rw[qn h2,qn (by omega)]
   ·rw[qo h2,show n*10+(c.toNat-48)=10*n+(c.toNat-48) by omega,Zc M hM s _ (by omega) h.2]
theorem rL{s:AG}(h0:s≠[])(h:s.all NJ=true):Gu s=if 18446744073709551615<Md 0 s then(18446744073709551615,true)else(Md 0 s,false):=by
 unfold Gu Lib.parseUintB
 rw[qo h0,Zc _ (by decide) s 0 (ib _) h]
 have e:(2^64-1:Nat)=18446744073709551615:=by decide
 rw[e]
 by_cases hv:18446744073709551615<Md 0 s
 ·rw[qn hv,qn hv]
 ·rw[qo hv,qo hv]
theorem SN{s:AG}{i:Nat}(h:i<s.length):(s.take (i+1)).all NJ=((s.take i).all NJ&&NJ s[i]):=by
 rw[bd h,jt];simp
theorem tN(s:AG)(hl:s.length<4611686018427387904): ∃k:Nat,Kh s=some (k:Int)∧k≤s.length∧(k<s.length↔s.all NJ=false):=by
 unfold Kh
 obtain⟨r,e,hr⟩: ∃r:Unit⊕Int,iter (fun(s1:Nat)=>if s1<s.length then
   let x3:=GM s s1
   (HD (decide (x3.1<48)) (some (decide (57<x3.1)))).bind fun x8=>if x8=true then(some ((s1:Nat):Int)).map fun r=> .inr (.inr r)else some (.inl (s1+x3.2))
   else some (.inr (.inl ()))) 0=some r∧((r= .inl ()∧s.all NJ=true)∨ ∃k:Nat,r= .inr (k:Int)∧k<s.length∧s.all NJ=false):=by
  refine Us (fun n=>s.length-n) (fun n=>n≤s.length∧(s.take n).all NJ=true) _ ?_ ⟨ib _,rfl⟩
  rintro n ⟨h1,h2⟩
  dsimp only
  by_cases hn:n<s.length
  ·rw[qn hn]
   have bad:NJ s[n]=false→s.all NJ=false:=fun hb=>by
    cases ha:s.all NJ with
    |false=>rfl
    |true=>rw[cd.1 ha _ (kl hn)]at hb;cases hb
   rcases qW s n hn with ⟨hb,e⟩|⟨hb,h128,h3,_⟩
   ·rw[e]
    dsimp only
    by_cases hd:NJ s[n]=true
    ·have:48≤s[n].toNat∧s[n].toNat≤57:=by simpa [NJ]using hd
     have e1:decide ((s[n].toNat:Int)<48)=false:=qr (by omega)
     have e2:decide ((57:Int)<(s[n].toNat:Int))=false:=qr (by omega)
     rw[e1,e2]
     simp only[HD,au,qu,aa]
     exact .inl ⟨_,rfl,⟨by omega,by rw[SN hn,h2,hd];rfl⟩,by omega⟩
    ·have hd':NJ s[n]=false:=by simpa using hd
     right
     refine⟨.inr (n:Int),?_, .inr ⟨n,rfl,hn,bad hd'⟩⟩
     by_cases h48:s[n].toNat<48
     ·have e1:decide ((s[n].toNat:Int)<48)=true:=qq (by omega)
      rw[e1];rfl
     ·have e1:decide ((s[n].toNat:Int)<48)=false:=qr (by omega)
      have e2:decide ((57:Int)<(s[n].toNat:Int))=true:=qq (by
       have: ¬(48≤s[n].toNat∧s[n].toNat≤57):=by simpa [NJ]using hd'
       omega)
      rw[e1,e2];rfl
   ·right
    have hd':NJ s[n]=false:=by
     have: ¬(48≤s[n].toNat∧s[n].toNat≤57):=by omega
     simpa [NJ]using this
    refine⟨.inr (n:Int),?_, .inr ⟨n,rfl,hn,bad hd'⟩⟩
    have e1:decide ((GM s n).1<48)=false:=qr (by omega)
    have e2:decide ((57:Int)<(GM s n).1)=true:=qq (by omega)
    rw[e1,e2];rfl
  ·rw[qo hn]
   exact .inr ⟨_,rfl, .inl ⟨rfl,by rw[av (by omega)]at h2;exact h2⟩⟩
 rcases hr with ⟨rfl,ha⟩|⟨k,rfl,hk,ha⟩
 ·exact⟨s.length,(qv (fun x:Option (Unit⊕Int)=>x.bind _) e).trans rfl,be _,by simp[ha]⟩
 ·exact⟨k,(qv (fun x:Option (Unit⊕Int)=>x.bind _) e).trans rfl,by omega,by simp[ha,hk]⟩
def ZO(s:AG)(m:UInt64):UInt64×Int:=(ei (DV s m.toNat).1,(DV s m.toNat).2)
theorem yX{s:AG}(h:1<s.length): ∃c,Dj s 0=some c∧s[0]? =some c:=by
 cases s with
 |nil=>simp at h
 |cons c r=>exact⟨c,rfl,rfl⟩
theorem nI{γ:Type}{s:AG}{K:Bool→Option γ}:((Bw (decide (1<(s.length:Int))) ((Dj s 0).bind fun x8=>let x9:=decide ((x8.toNat:Int)=((48:UInt8).toNat:Int));some x9)).bind K)=K (decide (1<s.length∧s[0]? =some 48)):=by
 by_cases h:1<s.length
 ·obtain⟨c,h1,h2⟩:=yX h
  rw[show decide ((1:Int)<(s.length:Int))=true from qq (by omega),h1,h2]
  have:decide ((c.toNat:Int)=((48:UInt8).toNat:Int))=decide (1<s.length∧some c=some (48:UInt8)):=by
   by_cases hc:c=48
   ·subst hc;simp[h]
   ·rw[qr,qr]
    ·rintro⟨_,e⟩;exact hc (bf e)
    ·intro e;exact hc (ef.1 (by omega))
  simp only[Bw,aa,qt]
  rw[this]
 ·rw[show decide ((1:Int)<(s.length:Int))=false from qr (by omega),show decide (1<s.length∧s[0]? =some 48)=false from qr fun e=>h e.1]
  rfl
theorem OC{s:AG}{m:Nat}(h:s=[]∨s.all NJ=false∨(1<s.length∧s[0]? =some 48)):DV s m=(0,5):=qn h
theorem fM{s:AG}{m:Nat}(h: ¬(s=[]∨s.all NJ=false∨(1<s.length∧s[0]? =some 48))):DV s m=if m<Md 0 s then(0,6)else(Md 0 s,0):=qo h
theorem Ki{s:AG}{m:UInt64}{n:Nat}{e:Int}(h:DV s m.toNat=(n,e)):ZO s m=(ei n,e):=by unfold ZO;rw[h]
theorem Py(s:AG)(m:UInt64)(hl:s.length<1073741824):Hc s m=some (ZO s m):=by
 obtain⟨k,hk,hkl,hka⟩:=tN s (by omega)
 have hm:=m.toNat_lt
 unfold Hc
 by_cases h0:s=[]
 ·rw[Ki (OC (.inl h0)),show decide (s=[])=true from qq h0]
  rfl
 ·rw[show decide (s=[])=false from qr h0,hk]
  simp only[HD,aa,au,qu]
  by_cases ha:s.all NJ=true
  ·rw[show decide ((k:Int)<(s.length:Int))=false from qr (fun hlt=>by have:=hka.1 (by omega);rw[ha]at this;cases this)]
   simp only[au,qu]
   refine(qv (fun x:Option Bool=>x.bind _) (nI (K:=some) (s:=s))).trans ?_
   rw[aa]
   by_cases hz:1<s.length∧s[0]? =some 48
   ·rw[Ki (OC (.inr (.inr hz))),qn (qq hz)];rfl
   ·have hg: ¬(s=[]∨s.all NJ=false∨(1<s.length∧s[0]? =some 48)):=fun h=>h.elim h0 fun h=>h.elim (fun h=>by rw[ha]at h;cases h) hz
    rw[qo (by rw[qr hz];decide)]
    have hp:H5 s 10 64=some (ei (Gu s).1,(Gu s).2):=by
     unfold H5 iS
     rw[qn ⟨rfl,rfl,by unfold Bs;omega⟩]
    rw[hp,aa,rL h0 ha]
    have hd:=fM (m:=m.toNat) hg
    by_cases hv:18446744073709551615<Md 0 s
    ·rw[qn (by omega)]at hd
     rw[Ki hd,qn hv];rfl
    ·rw[qo hv]
     have e:(ei (Md 0 s)).toNat=Md 0 s:=by rw[io];omega
     dsimp only
     rw[e]
     by_cases hmv:m.toNat<Md 0 s
     ·rw[qn hmv]at hd
      rw[Ki hd,show decide ((m.toNat:Int)<(Md 0 s:Int))=true from qq (by omega)];rfl
     ·rw[qo hmv]at hd
      rw[Ki hd,show decide ((m.toNat:Int)<(Md 0 s:Int))=false from qr (by omega)];rfl
  ·have ha':s.all NJ=false:=by simpa using ha
   rw[Ki (OC (.inr (.inl ha'))),show decide ((k:Int)<(s.length:Int))=true from qq (by have:=hka.2 ha';omega)]
   rfl
theorem X2: ∀k:Fin 256,HO (bc k.1)=some (match Jm (bc k.1)with|some v=>(bw v,true)|none=>(65535,false)):=by decide+kernel
theorem Uv{c:UInt8}{v:Nat}(h:Jm c=some v):v<16:=by
 unfold Jm at h
 split at h
 ·cases h;omega
 ·split at h
  ·cases h;omega
  ·cases h
theorem MN(c:UInt8):HO c=some (match Jm c with|some v=>(bw v,true)|none=>(65535,false)):=by
 have:=X2 ⟨c.toNat,c.toNat_lt⟩
 simpa using this
theorem or16: ∀x y:Fin 16,((if((4:UInt64).toNat:Int)<0 then none else some (De (((bw x.1).toNat:Int)*2^(min ((4:UInt64).toNat:Int).toNat 16)))).map fun z=>HL ((De (FA .or .u16 (z.toNat:Int) ((bw y.1).toNat:Int))).toNat:Int))=some (bc (16*x.1+y.1)):=by decide+kernel
theorem yV{s:AG}{k:Nat}{a b:UInt8}(h:2*k+1<s.length)(ha:s[2*k]? =some a)(hb:s[2*k+1]? =some b):s.drop (2*k)=a::b::s.drop (2*(k+1)):=by
 rw[bk (by omega),bk (by omega)]
 rw[ad (by omega),ae]at ha hb
 rw[ha,hb]
 rfl
theorem nM(s:AG)(hl:s.length<1073741824)(he:s.length%2=0){F:Int×GS UInt8→Option ((Int×GS UInt8)⊕(GS UInt8⊕(GS UInt8×Int)))}
  (h1: ∀(k:Nat) (g:GS UInt8) (a b:UInt8),2*k+1<s.length→s[2*k]? =some a→s[2*k+1]? =some b→F (((2*k:Nat):Int),g)=(match Jm a,Jm b with|some x,some y=>(M7 1 g [bc (16*x+y)]).map fun g'=> .inl (((2*k+2:Nat):Int),g')|_,_=>some (.inr (.inr (.nil,5)))))
  (h2: ∀g,F ((s.length:Int),g)=some (.inr (.inl g))):
  (iter F (0, .nil)).bind (a8 (fun p5=>some (p5,(0:Int))) some)=some (match Qn s with|none=>(.nil,5)|some l=>(O6 l,0)):=by
 have key: ∀n k (pre:List UInt8),s.length=2*k+2*n→pre.length=k→iter F (((2*k:Nat):Int),O6 pre)=some (match Qn (s.drop (2*k))with|none=> .inr (.nil,5)|some l=> .inl (O6 (pre++l))):=by
  intro n
  induction n with
  |zero=>
   intro k pre hk hp
   rw[Bm (b:= .inl (O6 pre)) (by rw[show 2*k=s.length by omega];exact h2 _),ce (by omega)]
   simp[Qn]
  |succ n ih=>
   intro k pre hk hp
   obtain⟨a,ha⟩: ∃a,s[2*k]? =some a:=⟨_,ad (by omega)⟩
   obtain⟨b,hb⟩: ∃b,s[2*k+1]? =some b:=⟨_,ad (by omega)⟩
   have hs:=h1 k (O6 pre) a b (by omega) ha hb
   rw[yV (by omega) ha hb]
   cases ea:Jm a with
   |none=>
    rw[ea]at hs
    rw[Bm hs]
    simp[Qn,ea]
   |some x=>
    cases eb:Jm b with
    |none=>
     rw[ea,eb]at hs
     rw[Bm hs]
     simp[Qn,ea,eb]
    |some y=>
     rw[ea,eb]at hs
     dsimp only at hs
     rw[PK (by rw[L1];unfold Bs;omega),L1,←Z1,an]at hs
     rw[BN hs,show 2*k+2=2*(k+1) by omega,ih (k+1) _ (by omega) (by simp[hp])]
     simp only[Qn,ea,eb,aa]
     cases Qn (s.drop (2*(k+1)))<;>simp
 have h0:=key (s.length/2) 0 [] (by omega) rfl
 refine(qv (fun x:Option (GS UInt8⊕(GS UInt8×Int))=>x.bind (a8 (fun p5=>some (p5,(0:Int))) some)) h0).trans ?_
 rw[Nat.mul_zero,db]
 cases Qn s<;>simp
theorem Zx: ∀{s:AG},s.length%2=1→Qn s=none
 |[],h=>by simp at h
 |[_],_=>rfl
 |a::b::s,h=>by
  rw[Qn,Zx (s:=s) (by simp at h;omega)]
  cases Jm a<;>cases Jm b<;>rfl
def nN(s:AG):GS UInt8×Int:=match Qn s with|none=>(.nil,5)|some l=>(O6 l,0)
theorem tm2N(n:Nat):(if(2:Int)=0 then none else some (gj (n:Int) 2))=some ((n%2:Nat):Int):=by
 rw[qo (by decide)];rfl
theorem Uu(s:AG)(hl:s.length<1073741824):JF s=some (nN s):=by
 unfold JF
 refine(qv (fun x:Option Int=>x.bind _) (tm2N s.length)).trans ?_
 rw[aa]
 by_cases he:s.length%2=0
 ·rw[qo (by rw[he];decide)]
  refine nM s hl he ?_ ?_
  ·intro k g a b hk ha hb
   dsimp only
   rw[qn (by rw[qp];omega),B5,ha,aa,MN,aa,show((2*k:Nat):Int)+1=((2*k+1:Nat):Int) by omega,Bc (by omega),B5,hb,aa,MN,aa]
   cases ea:Jm a with
   |none=>rfl
   |some x=>
    cases eb:Jm b with
    |none=>rfl
    |some y=>
     have hx:=Uv ea
     have hy:=Uv eb
     have ho:=or16 ⟨x,hx⟩ ⟨y,hy⟩
     simp only[HD,kr,au,qu,aa]
     obtain⟨z,hz,hz2⟩:=aj.1 ho
     refine(qv (fun q:Option UInt16=>q.bind _) hz).trans ?_
     rw[aa,hz2,show((2*k:Nat):Int)+2=((2*k+2:Nat):Int) by omega,Bc (by omega)]
     cases M7 1 g [bc (16*x+y)]<;>rfl
  ·intro g
   dsimp only
   rw[qo (by simp)]
 ·have ho:s.length%2=1:=by omega
  rw[qn (by rw[ho];decide)]
  unfold nN
  rw[Zx ho]
theorem keys_of(g:GS UInt8):XV g=some (if g.l.length<32 then(zK,3)else if 32<g.l.length then(zK,4)else(uC g.l,0)):=by
 unfold XV
 by_cases h1:g.l.length<32
 ·rw[qn (by rw[qp];omega),qn h1];rfl
 ·rw[qo (by rw[qp];omega),qo h1]
  by_cases h2:32<g.l.length
  ·rw[qn (by rw[qp];omega),qn h2];rfl
  ·rw[qo (by rw[qp];omega),qo h2]
   have h3:g.l.length=32:=by omega
   have:dL 32 g=some (uC g.l):=by
    unfold dL uC
    rw[dif_pos (by omega),dif_pos h3]
    congr 2
    exact av (by omega)
   rw[this];rfl
theorem SA(s:AG)(hl:s.length<1073741824):IB s=some (O0 s):=by
 unfold IB O0
 rw[Uu s hl,aa]
 unfold nN
 cases h:Qn s with
 |none=>rfl
 |some l=>
  rw[qo (by show¬(!decide ((0:Int)=0))=true;decide),keys_of]
  show(some (if(O6 l).l.length<32 then(zK,(3:Int))else if 32<(O6 l).l.length then(zK,4)else(uC (O6 l).l,0))).bind _=_
  rw[L1]
  rfl
end
section
theorem qT: ∀k:Fin 256,Lz (bc k.1)=some (V3 (bc k.1)):=by decide+kernel
theorem Zw(c:UInt8):Lz c=some (V3 c):=by
 have:=qT ⟨c.toNat,c.toNat_lt⟩
 simpa using this
theorem or4{x y:Nat}(hx:x<4096)(hy:y<16):FA .or .u16 ((16*x:Nat):Int) (y:Int)=((16*x+y:Nat):Int):=by
 show((cm 16 ((16*x:Nat):Int)|||cm 16 (y:Int)).toNat:Int)=_
 rw[nh]
 have e1:(cm 16 ((16*x:Nat):Int)).toNat=16*x:=by rw[gx];omega
 have e2:(cm 16 (y:Int)).toNat=y:=by rw[gx];omega
 rw[e1,e2,show 16*x=2^4*x from rfl,←j3 hy]
theorem grp_step{γ:Type}{K:UInt16→Option γ}(x v:Nat)(hx:x<4096)(hv:v<16):((if((4:UInt64).toNat:Int)<0 then none else some (De (((bw x).toNat:Int)*2^(min ((4:UInt64).toNat:Int).toNat 16)))).bind fun z=>K (De (FA .or .u16 (z.toNat:Int) ((bw v).toNat:Int))))=K (bw (16*x+v)):=by
 have e4:(2:Int)^(min ((4:UInt64).toNat:Int).toNat 16)=16:=by decide
 have ex:(bw x).toNat=x:=by rw[gn];omega
 have ev:(bw v).toNat=v:=by rw[gn];omega
 rw[qo (by decide),aa,e4,ex,ev,show(x:Int)*16=((16*x:Nat):Int) by omega,KU (by omega),or4 hx hv]
 congr 1
 apply UInt16.toNat_inj.1
 rw[KU (by omega),gn];omega
theorem Uw{c:UInt8}{v:Nat}(h:Jm (V3 c)=some v):v<16:=Uv h
theorem uR: ∀(s:AG) (n m:Nat),Yi n s=some m→m<(n+1)*16^s.length
 |[],n,m,h=>by cases h;simp
 |c::s,n,m,h=>by
  rw[Yi]at h
  obtain⟨v,hv,h⟩:=ab.1 h
  have h1:=uR s _ m h
  have h2:=Uw hv
  have:(16*n+v+1)*16^s.length≤(16*(n+1))*16^s.length:=cr _ (by omega)
  rw[bb,gm]
  calc m<_:=h1
   _≤_:=this
   _=_:=by rw[Nat.mul_comm (16^s.length) 16,←Nat.mul_assoc,Nat.mul_comm 16 (n+1)]
theorem dK{s:AG}{i:Nat}(h:i<s.length)(n:Nat):Yi n (s.drop i)=(Jm (V3 s[i])).bind fun v=>Yi (16*n+v) (s.drop (i+1)):=by
 rw[bk h,Yi]
noncomputable def stepG(s:AG)(s7:UInt16×Int):Option ((UInt16×Int)⊕(UInt16⊕(UInt16×Int))):=
 if(decide (s7.2<(s.length:Int)))=true then
 (Dj s s7.2).bind fun x10=>
 (Lz x10).bind fun x11=>
 (HO x11).bind fun x12=>
 if(!x12.2)=true then
 (some ((0:UInt16),5)).map fun r=> .inr (.inr r)
 else
 (if((4:UInt64).toNat:Int)<0 then none else some (De ((s7.1.toNat:Int)*2^(min ((4:UInt64).toNat:Int).toNat 16)))).bind fun x16=>
 let x17:=De (FA .or .u16 (x16.toNat:Int) (x12.1.toNat:Int))
 some (.inl (x17,ql qm (s7.2+1)))
 else
 some (.inr (.inl s7.1))
theorem wX{s:AG}{i n:Nat}(h4:s.length≤4)(hi:i<s.length)(hn:n<16^i):stepG s (bw n,(i:Int))=(match Jm (V3 s[i])with|some v=>some (.inl (bw (16*n+v),((i+1:Nat):Int)))|none=>some (.inr (.inr (0,5)))):=by
 unfold stepG
 dsimp only
 rw[qn (by rw[qp];omega),B5,ad hi,aa,Zw,aa,MN,aa]
 cases ho:Jm (V3 s[i])with
 |none=>rfl
 |some v=>
  have hn4:n<4096:=en hn (dy (kb (by decide) (show i≤3 by omega)) (by decide))
  have:=grp_step n v hn4 (Uw ho) (K:=fun x17=>(some (.inl (x17,ql qm ((i:Int)+1))):Option ((UInt16×Int)⊕(UInt16⊕(UInt16×Int)))))
  refine this.trans ?_
  rw[show(i:Int)+1=((i+1:Nat):Int) by omega,Bc (by omega)]
theorem nS{s:AG}(h4:s.length≤4): ∀k i n,s.length=i+k→n<16^i→iter (stepG s) (bw n,(i:Int))=some (match Yi n (s.drop i)with|some m=> .inl (bw m)|none=> .inr (0,5)):=by
 intro k
 induction k with
 |zero=>
  intro i n hk hn
  rw[Bm (b:= .inl (bw n)) (by unfold stepG;dsimp only;rw[qo (by rw[qp];omega)]),ce (by omega)]
  rfl
 |succ k ih=>
  intro i n hk hn
  have hi:i<s.length:=by omega
  have hs:=wX h4 hi hn
  rw[dK hi]
  cases e:Jm (V3 s[i])with
  |none=>
   rw[e]at hs
   rw[Bm hs];rfl
  |some v=>
   rw[e]at hs
   rw[BN hs,ih (i+1) _ (by omega) (by have:=Uw e;rw[gm];omega)]
   rfl
theorem dX(s:AG)(hl:s.length<1073741824):Eu s=some (match YS s with|some n=>(bw n,0)|none=>(0,5)):=by
 unfold Eu YS
 by_cases h1:s.length<1
 ·rw[show decide ((s.length:Int)<1)=true from qq (by omega),qo (by omega)];rfl
 ·rw[show decide ((s.length:Int)<1)=false from qr (by omega)]
  by_cases h4:4<s.length
  ·rw[show decide ((4:Int)<(s.length:Int))=true from qq (by omega),qo (by omega)];rfl
  ·rw[show decide ((4:Int)<(s.length:Int))=false from qr (by omega),qn (by omega)]
   have h0:=nS (s:=s) (by omega) s.length 0 0 (by omega) (by decide)
   refine(qv (fun x:Option (UInt16⊕(UInt16×Int))=>x.bind (a8 (fun p8=>some (p8,(0:Int))) some)) h0).trans ?_
   rw[db]
   cases Yi 0 s<;>rfl
def ar4(l:List UInt8):Ar UInt8 4:=if h:l.length=4 then⟨l,h⟩else⟨[0,0,0,0],rfl⟩
theorem Vw(s:AG):(DG s).1.length=4:=by
 unfold DG
 split
 ·split
  ·simp;assumption
  ·rfl
 ·rfl
theorem Ec{c:UInt8}: ∀{l:AG} {x:AG},x∈AK c l→x.length≤l.length
 |[],x,h=>by simp only[AK,gf]at h;subst h;simp
 |y::l,x,h=>by
  simp only[AK]at h
  by_cases hy:y=c
  ·rw[qn hy]at h
   rcases bu.1 h with rfl|h
   ·simp
   ·have:=Ec h;simp;omega
  ·rw[qo hy]at h
   cases e:AK c l with
   |nil=>exact absurd e (C6 l)
   |cons a t=>
    rw[e]at h
    rcases bu.1 h with rfl|h
    ·have:=Ec (c:=c) (l:=l) (x:=a) (by rw[e];simp);simp;omega
    ·have:=Ec (c:=c) (l:=l) (x:=x) (by rw[e];exact bg _ h);simp;omega
theorem RT(s:AG):(ZO s 255).2=(DV s 255).2:=rfl
theorem mR(s:AG)(h:(DV s 255).2=0):HL ((ZO s 255).1.toNat:Int)=bc (DV s 255).1:=by
 have hb:(DV s 255).1≤255:=by
  unfold DV at h ⊢
  split
  ·simp
  ·split
   ·simp
   ·simp;omega
 unfold ZO
 show HL ((ei (DV s 255).1).toNat:Int)=_
 rw[io,show(DV s 255).1%2^64=(DV s 255).1 by omega]
 apply ef.1
 rw[show HL (((DV s 255).1:Nat):Int)=bc (((DV s 255).1:Int)%256).toNat from rfl]
 congr 2
 omega
theorem UL: ∀(l:List AG) (x:AG),Nn l=0→Nn (l++[x])=(DV x 255).2
 |[],x,_=>by
  show(if(DV x 255).2=0 then Nn []else(DV x 255).2)=_
  split
  ·rename_i h;rw[h];rfl
  ·rfl
 |y::l,x,h=>by
  rw[dt,Nn]
  rw[Nn]at h
  split at h
  ·rename_i hy
   rw[qn hy,UL l x h]
  ·rename_i hy
   exact absurd h hy
theorem pU: ∀(l:List AG) (r:List AG),Nn l≠0→Nn (l++r)=Nn l
 |[],r,h=>absurd rfl h
 |y::l,r,h=>by
  rw[dt,Nn,Nn]
  rw[Nn]at h
  split
  ·rename_i hy
   rw[qn hy]at h
   exact pU l r h
  ·rfl
theorem eB(P:List AG)(hP:P.length=4){F:Int×Ar UInt8 4→Option ((Int×Ar UInt8 4)⊕(Ar UInt8 4⊕(Ar UInt8 4×Int)))}
  (h1: ∀(i:Nat) (A:Ar UInt8 4) (x:AG),i<4→P[i]? =some x→F ((i:Int),A)=if(DV x 255).2=0 then some (.inl (((i+1:Nat):Int),A.set i (bc (DV x 255).1)))else some (.inr (.inr (⟨[0,0,0,0],rfl⟩,(DV x 255).2))))
  (h2: ∀A,F (((4:Nat):Int),A)=some (.inr (.inl A))):
  (iter F (0,(ak 4 a7).z)).bind (a8 (fun p=>some (p,(0:Int))) some)=some (if Nn P=0 then(ar4 (P.map fun x=>bc (DV x 255).1),0)else(⟨[0,0,0,0],rfl⟩,Nn P)):=by
 have key: ∀n i (A:Ar UInt8 4),i+n=4→Nn (P.take i)=0→A.l.take i=(P.take i).map (fun x=>bc (DV x 255).1)→iter F ((i:Int),A)=some (if Nn P=0 then .inl (ar4 (P.map fun x=>bc (DV x 255).1))else .inr (⟨[0,0,0,0],rfl⟩,Nn P)):=by
  intro n
  induction n with
  |zero=>
   intro i A hi hb hA
   obtain rfl:i=4:=by omega
   rw[Bm (h2 A)]
   have e1:P.take 4=P:=av (by omega)
   have e2:A.l.take 4=A.l:=av (by rw[A.len];omega)
   rw[e1]at hb hA
   rw[e2]at hA
   rw[qn hb]
   congr 1
   unfold ar4
   rw[dif_pos (by simp[hP])]
   obtain⟨l,hl⟩:=A
   simp only at hA
   subst hA
   rfl
  |succ n ih=>
   intro i A hi hb hA
   have hlt:i<P.length:=by omega
   have hx:=h1 i A P[i] (by omega) (ad hlt)
   have hP2:P=P.take i++[P[i]]++P.drop (i+1):=by
    rw[dl,er,←bk hlt,fq]
   by_cases hd:(DV P[i] 255).2=0
   ·rw[qn hd]at hx
    rw[BN hx]
    refine ih (i+1) _ (by omega) ?_ ?_
    ·rw[bd hlt,UL _ _ hb,hd]
    ·rw[bd hlt,de,←hA]
     show(A.l.set i _).take (i+1)=_
     rw[RA (by rw[A.len];omega) rfl]
     rfl
   ·rw[qo hd]at hx
    rw[Bm hx]
    have hq:Nn P=(DV P[i] 255).2:=by
     conv=>lhs;rw[hP2]
     rw[pU _ _ (by rw[UL _ _ hb];exact hd),UL _ _ hb]
    rw[hq,qo hd]
 have h0:=key 4 0 (ak 4 a7).z rfl rfl rfl
 refine(qv (fun x:Option (Ar UInt8 4⊕(Ar UInt8 4×Int))=>x.bind _) h0).trans ?_
 split<;>rfl
def W1(s:AG):Ar UInt8 4×Int:=(ar4 (DG s).1,(DG s).2)
theorem YY(s:AG)(hl:s.length<1073741824):KD s=some (W1 s):=by
 unfold KD W1 DG
 rw[eG s 46 hl,aa]
 by_cases h4:(AK 46 s).length=4
 ·rw[qn h4]
  refine li (qo (by simp[h4])) ?_
  refine(eB (AK 46 s) h4 ?_ ?_).trans ?_
  ·intro i A x hi hx
   have hxl:x.length<1073741824:=by
    have:=Ec (cq hx);omega
   refine li (qn (by simp[h4];omega)) ?_
   dsimp only
   rw[B5,Es,hx,aa,Py x 255 hxl,aa]
   by_cases hd:(DV x 255).2=0
   ·rw[qo (by rw[RT,hd];decide),qn hd,BV hi,aa,qn hi,aa,mR x hd,show(i:Int)+1=((i+1:Nat):Int) by omega,Bc (by omega)]
   ·rw[qn (by rw[RT];simp[hd]),qo hd]
    rfl
  ·intro A
   exact qo (by simp[h4])
  ·by_cases hb:Nn (AK 46 s)=0
   ·rw[qn hb,qn hb]
   ·rw[qo hb,qo hb];rfl
 ·rw[qo h4]
  refine li (qn (by simp only[cg,decide_eq_false_iff_not];intro e;exact h4 (ia e))) rfl
end
section
def dM(gp:Option Nat)(l:List Nat)(p:AG):Option (List Nat×Option Nat):=
 match YS p with
 |some x=>if l.length=8 then none else some (l++[x],gp)
 |none=>if(DG p).2=0 then(if 7≤l.length then none else some (l++[256*((DG p).1.getD 0 0).toNat+((DG p).1.getD 1 0).toNat,256*((DG p).1.getD 2 0).toNat+((DG p).1.getD 3 0).toNat],gp))else none
def lG:Option Nat→List Nat→List AG→Option (List Nat×Option Nat)
 |_,_,[]=>none
 |gp,l,[p]=>dM gp l p
 |gp,l,p::q::r=>match YS p with
  |none=>none
  |some x=>if l.length=8 then none else
   if q=[]∧r≠[]then(if gp.isSome=true then none else if r=[[]]then some (l++[x],some (l.length+1))else lG (some (l.length+1)) (l++[x]) r)
   else lG gp (l++[x]) (q::r)
theorem rdG_nil:YS []=none:=rfl
theorem ST{gp:Option Nat}{l:List Nat}(hl:l.length≤8)(p:AG):dM gp l p=(DM true [p]).bind fun m=>if l.length+m.length≤8 then some (l++m,gp)else none:=by
 unfold dM DM
 cases YS p with
 |some x=>
  simp only[DM,an,aa,bb,bz]
  by_cases h:l.length=8
  ·rw[qn h,qo (by omega)]
  ·rw[qo h,qn (by omega)]
 |none=>
  by_cases hq:(DG p).2=0
  ·simp only[hq,true_and,qt,aa,bb,bz]
   by_cases h:7≤l.length
   ·rw[qn h,qo (by omega)]
   ·rw[qo h,qn (by omega)]
  ·simp[hq]
theorem KG(last:Bool)(p q:AG)(r:List AG):DM last (p::q::r)=(YS p).bind fun n=>(DM last (q::r)).map fun l=>n::l:=by
 rw[DM]
 cases YS p with
 |none=>simp
 |some n=>rfl
theorem iI(g:Nat): ∀(P:List AG) (l:List Nat),P≠[]→l.length≤8→lG (some g) l P=(DM true P).bind fun m=>if l.length+m.length≤8 then some (l++m,some g)else none
 |[],l,h,_=>absurd rfl h
 |[p],l,_,hl=>by rw[lG,ST hl]
 |p::q::r,l,_,hl=>by
  rw[lG,KG]
  cases YS p with
  |none=>rfl
  |some x=>
   dsimp only
   rw[aa]
   by_cases h8:l.length=8
   ·rw[qn h8]
    cases DM true (q::r)with
    |none=>rfl
    |some m=>
     simp only[an,aa,bb]
     rw[qo (by omega)]
   ·rw[qo h8]
    by_cases hq:q=[]∧r≠[]
    ·rw[qn hq,qn (by rfl)]
     obtain⟨rfl,hr⟩:=hq
     obtain⟨a,t,rfl⟩:=cn hr
     rw[KG,rdG_nil];rfl
    ·rw[qo hq,iI g (q::r) _ (by simp) (by simp;omega)]
     cases DM true (q::r)with
     |none=>rfl
     |some m=>
      simp only[an,aa,bb,aw,bz]
      by_cases h:l.length+(0+1)+m.length≤8
      ·rw[qn h,qn (by omega)];simp
      ·rw[qo h,qo (by omega)]
def aL(l m:List Nat)(b:AG):Option (List Nat×Option Nat):=
 if l.length+m.length≤8 then(if b=[]then some (l++m,some (l.length+m.length))else(DM true (AK 58 b)).bind fun m'=>if l.length+m.length+m'.length≤8 then some (l++m++m',some (l.length+m.length))else none)else none
theorem gapS_app{p:AG}(hp:(58:UInt8)∉p): ∀t:AG,It (p++58::t)=(It (58::t)).map fun q=>(p++q.1,q.2):=by
 induction p with
 |nil=>
  intro t
  rw[dw]
  cases It (58::t)<;>rfl
 |cons a p ih=>
  intro t
  have ha:a≠58:=fun e=>hp (by simp[e])
  have hp':(58:UInt8)∉p:=fun h=>hp (bg _ h)
  have ih':=ih hp' t
  obtain⟨b,s,e⟩: ∃b s,p++58::t=b::s:=by
   cases p with
   |nil=>exact⟨_,_,rfl⟩
   |cons b s=>exact⟨_,_,rfl⟩
  rw[dt,e,It,qo (fun h=>ha h.1),←e,ih']
  cases It (58::t)<;>rfl
theorem vT(t:AG):It (58::58::t)=some ([],t):=by rw[It,qn ⟨rfl,rfl⟩]
theorem gapS_one{c:UInt8}(hc:c≠58)(t:AG):It (58::c::t)=(It (c::t)).map fun q=>(58::q.1,q.2):=by rw[It,qo (fun h=>hc h.2)]
theorem zB{s:AG}(h:(58:UInt8)∉s):It s=none:=(fD h).1
theorem Nr{c:UInt8}{x:UInt8}{t:AG}(h:x≠c): ∃a r,AK c (x::t)=(x::a)::r:=by
 rw[AK,qo h]
 cases e:AK c t with
 |nil=>exact absurd e (C6 t)
 |cons a r=>exact⟨a,r,rfl⟩
theorem rdC_none: ∀(n:Nat) (s:AG) (l:List Nat),s.length≤n→l.length≤8→lG none l (AK 58 s)=(match It s with
  |none=>(DM true (AK 58 s)).bind fun m=>if l.length+m.length≤8 then some (l++m,none)else none
  |some (a,b)=>(DM false (AK 58 a)).bind fun m=>aL l m b):=by
 intro n
 induction n with
 |zero=>
  intro s l hs hl
  obtain rfl:s=[]:=fb.1 (by omega)
  show lG none l [[]]=(DM true [[]]).bind _
  rw[lG,ST hl]
 |succ n ih=>
  intro s l hs hl
  rcases L9 s 58 with ⟨hn,_⟩|⟨p,q,rfl,hn,_⟩
  ·have h58:(58:UInt8)∉s:=fun h=>hn 58 h rfl
   rw[G8 hn,zB h58,lG,ST hl]
  ·have hp:(58:UInt8)∉p:=fun h=>hn 58 h rfl
   have hq:q.length≤n:=by simp at hs;omega
   rw[Gb hn,gapS_app hp]
   match q,hq with
   |[],_=>
    have e:AK 58 ([]:AG)=[[]]:=rfl
    have eg:It [58]=none:=rfl
    rw[e,eg,KG,lG]
    have e2:DM true [[]]=none:=rfl
    have e3: ∀l,lG none l [[]]=none:=fun l=>rfl
    rw[e2]
    cases YS p with
    |none=>rfl
    |some x=>
     dsimp only
     rw[qo (by simp: ¬(([]:AG)=[]∧([]:List AG)≠[])),e3]
     split<;>rfl
   |c::t,hq=>
    by_cases hc:c=58
    ·subst hc
     have e:AK 58 (58::t)=[]::AK 58 t:=by rw[AK,qn rfl]
     rw[e,vT,lG]
     simp only[an,dv,G8 hn]
     cases h:YS p with
     |none=>simp[DM,h]
     |some x=>
      have e2:DM false [p]=some [x]:=by simp[DM,h]
      rw[e2]
      dsimp only
      rw[aa]
      unfold aL
      simp only[bb,bz]
      by_cases h8:l.length=8
      ·rw[qn h8,qo (by omega)]
      ·rw[qo h8,qn ⟨trivial,C6 t⟩,qo (by simp),qn (show l.length+(0+1)≤8 by omega)]
       have et:(AK 58 t=[[]])↔t=[]:=by
        constructor
        ·intro h
         cases t with
         |nil=>rfl
         |cons y t=>
          by_cases hy:y=58
          ·rw[AK,qn hy]at h
           have:=(gy h).2
           exact absurd this (C6 t)
          ·obtain⟨a,r,e⟩:=Nr (t:=t) hy
           rw[e]at h
           have:=(gy h).1
           cases this
        ·rintro rfl;rfl
       by_cases h0:t=[]
       ·rw[qn (et.2 h0),qn h0]
       ·rw[qo (fun h=>h0 (et.1 h)),qo h0,iI _ _ _ (C6 t) (by simp;omega)]
        simp
    ·have hcp:AK 58 (c::t)≠[]:=C6 _
     obtain⟨a,r,e⟩:=Nr (t:=t) hc
     have ih':=ih (c::t) (l:=l++[(YS p).getD 0]) hq
     rw[gapS_one hc]
     rw[e]at ih' ⊢
     rw[lG,KG]
     cases h:YS p with
     |none=>
      cases It (c::t)with
      |none=>rfl
      |some q=>
       obtain⟨a',b'⟩:=q
       simp only[an]
       rw[Gb hn]
       obtain⟨u,v,e3⟩:=cn (C6 (c:=58) a')
       rw[e3,KG,h];rfl
     |some x=>
      rw[h]at ih'
      simp only[iq]at ih'
      dsimp only
      by_cases h8:l.length=8
      ·rw[qn h8]
       cases It (c::t)with
       |none=>
        simp only[df,aa]
        cases DM true ((c::a)::r)with
        |none=>rfl
        |some m=>simp only[an,aa,bb];rw[qo (by omega)]
       |some q=>
        obtain⟨a',b'⟩:=q
        simp only[an]
        rw[Gb hn]
        obtain⟨u,v,e3⟩:=cn (C6 (c:=58) a')
        rw[e3,KG,h,aa]
        cases DM false (u::v)with
        |none=>rfl
        |some m=>
         simp only[an,aa]
         unfold aL
         rw[qo (by simp;omega)]
      ·rw[qo h8,qo (by simp),ih' (by simp;omega)]
       cases It (c::t)with
       |none=>
        simp only[df,aa]
        cases DM true ((c::a)::r)with
        |none=>rfl
        |some m=>
         simp only[an,aa,bb,aw,bz,dl,er]
         by_cases hh:l.length+(0+1)+m.length≤8
         ·rw[qn hh,qn (by omega)]
         ·rw[qo hh,qo (by omega)]
       |some q=>
        obtain⟨a',b'⟩:=q
        simp only[an]
        rw[Gb hn]
        obtain⟨u,v,e3⟩:=cn (C6 (c:=58) a')
        rw[e3,KG,h,aa]
        cases DM false (u::v)with
        |none=>rfl
        |some m=>
         simp only[an,aa]
         unfold aL
         simp only[aw,bb,bz,dl,er]
         rw[show l.length+(0+1)+m.length=l.length+(m.length+1) by omega]
def gapI:Option Nat→Int
 |none=> -1
 |some g=>(g:Int)
def XM(r:A8)(l:List Nat)(gp:Option Nat):Prop:=
 r.n_=(l.length:Int)∧l.length≤8∧r.g_.l.take l.length=l.map bw∧r.gap_=gapI gp
noncomputable def putR(r:A8)(v:UInt16):Option (Bool×A8):=
 if(decide (r.n_=8))=true then
 some (false,r)
 else
 (BU 8 r.n_).bind fun x93=>
 (if x93<8 then some ({r with g_:=r.g_.set x93 v})else none).bind fun x94=>
 some (true,{x94 with n_:=ql qm (x94.n_+1)})
theorem RJ{r:A8}{l:List Nat}{gp:Option Nat}{v:UInt16}(h:XM r l gp)(h8:l.length=8):putR r v=some (false,r):=by
 unfold putR
 rw[qn (by rw[qp,h.1,h8];rfl)]
theorem XT{r:A8}{l:List Nat}{gp:Option Nat}(h:XM r l gp)(h8: ¬l.length=8)(x:Nat): ∃r',putR r (bw x)=some (true,r')∧XM r' (l++[x]) gp:=by
 obtain⟨h1,h2,h3,h4⟩:=h
 unfold putR
 rw[qo (by rw[qp,h1];omega),h1,BV (by omega),aa,qn (by omega),aa]
 refine⟨_,rfl,?_,?_,?_,h4⟩
 ·show ql qm ((l.length:Int)+1)=_
  rw[show(l.length:Int)+1=((l.length+1:Nat):Int) by omega,Bc (by omega),aw];rfl
 ·simp;omega
 ·show(r.g_.l.set l.length _).take (l++[x]).length=_
  rw[aw,show [x].length=1 from rfl,RA (by rw[r.g_.len];omega) rfl,h3,de];rfl
theorem or8h{x y:Nat}(hx:x<256)(hy:y<256):FA .or .u16 ((256*x:Nat):Int) (y:Int)=((256*x+y:Nat):Int):=by
 show((cm 16 ((256*x:Nat):Int)|||cm 16 (y:Int)).toNat:Int)=_
 rw[nh]
 have e1:(cm 16 ((256*x:Nat):Int)).toNat=256*x:=by rw[gx];omega
 have e2:(cm 16 (y:Int)).toNat=y:=by rw[gx];omega
 rw[e1,e2,show 256*x=2^8*x from rfl,←j3 hy]
theorem eH{γ:Type}{K:UInt16→Option γ}(x:UInt8){M:UInt16→Option UInt16}(y:UInt8)(hM: ∀z,M z=some (De (FA .or .u16 (z.toNat:Int) ((De (y.toNat:Int)).toNat:Int)))):((if((8:UInt64).toNat:Int)<0 then none else some (De (((De (x.toNat:Int)).toNat:Int)*2^(min ((8:UInt64).toNat:Int).toNat 16)))).bind fun z=>(M z).bind K)=K (bw (256*x.toNat+y.toNat)):=by
 have hx:=x.toNat_lt
 have hy:=y.toNat_lt
 have e8:(2:Int)^(min ((8:UInt64).toNat:Int).toNat 16)=256:=by decide
 rw[qo (by decide),aa,hM,aa,e8,KU (by omega),KU (by omega),show(x.toNat:Int)*256=((256*x.toNat:Nat):Int) by omega,KU (by omega),or8h (by omega) (by omega)]
 congr 1
 apply UInt16.toNat_inj.1
 rw[KU (by omega),gn];omega
noncomputable def tailC(r:A8)(a:AG):Option (Bool×A8):=
 (Eu a).bind fun x15=>
 if(decide (x15.2=0))=true then
 (putR r x15.1).bind (fun(p19:(Bool×A8))=>some (p19.1,p19.2))
 else
 (KD a).bind fun x28=>
 if(decide (x28.2=0))=true then
 (BU 4 0).bind fun x34=>
 (x28.1.l[x34]?).bind fun x35=>
 (if((8:UInt64).toNat:Int)<0 then none else some (De (((De (x35.toNat:Int)).toNat:Int)*2^(min ((8:UInt64).toNat:Int).toNat 16)))).bind fun x37=>
 (BU 4 1).bind fun x38=>
 (x28.1.l[x38]?).bind fun x39=>
 let x41:=De (FA .or .u16 (x37.toNat:Int) ((De (x39.toNat:Int)).toNat:Int))
 (putR r x41).bind (fun(p42:(Bool×A8))=>
 if p42.1=true then
 (BU 4 2).bind fun x51=>
 (x28.1.l[x51]?).bind fun x52=>
 (if((8:UInt64).toNat:Int)<0 then none else some (De (((De (x52.toNat:Int)).toNat:Int)*2^(min ((8:UInt64).toNat:Int).toNat 16)))).bind fun x54=>
 (BU 4 3).bind fun x55=>
 (x28.1.l[x55]?).bind fun x56=>
 let x58:=De (FA .or .u16 (x54.toNat:Int) ((De (x56.toNat:Int)).toNat:Int))
 (putR p42.2 x58).bind (fun(p59:(Bool×A8))=>some (p59.1,p59.2))
 else
 some (false,p42.2))
 else
 some (false,r)
theorem NF(s:AG)(i:Nat)(hi:i<4):(ar4 (DG s).1).l[i]? =some ((DG s).1.getD i 0):=by
 have h:=Vw s
 have e:(ar4 (DG s).1).l=(DG s).1:=by unfold ar4;rw[dif_pos h]
 rw[e,ad (by omega),kc,ad (by omega)];rfl
theorem dN{r:A8}{l:List Nat}{gp:Option Nat}(h:XM r l gp)(p:AG)(hl:p.length<1073741824): ∃b r',tailC r p=some (b,r')∧(b=true→ ∃l' gp',dM gp l p=some (l',gp')∧XM r' l' gp')∧(b=false→dM gp l p=none):=by
 unfold tailC dM
 rw[dX p hl,aa]
 cases hg:YS p with
 |some x=>
  dsimp only
  rw[qn (by simp)]
  by_cases h8:l.length=8
  ·rw[RJ h h8,qn h8]
   exact⟨false,r,rfl,fun e=>(by cases e),fun _=>rfl⟩
  ·obtain⟨r',e,hr⟩:=XT h h8 x
   rw[e,qo h8]
   exact⟨true,r',rfl,fun _=>⟨_,_,rfl,hr⟩,fun e=>(by cases e)⟩
 |none=>
  dsimp only
  rw[qo (by decide),YY p hl,aa]
  unfold W1
  dsimp only
  by_cases hq:(DG p).2=0
  ·rw[qn (qq hq),qn hq]
   have i0:BU 4 0=some 0:=rfl
   have i1:BU 4 1=some 1:=rfl
   have i2:BU 4 2=some 2:=rfl
   have i3:BU 4 3=some 3:=rfl
   rw[i0,aa,NF p 0 (by omega),aa]
   simp only[i1,i2,i3,aa,NF p 1 (by omega),NF p 2 (by omega),NF p 3 (by omega)]
   have s1:=eH (K:=fun x41=>(putR r x41).bind (fun(p42:(Bool×A8))=>if p42.1=true then(if((8:UInt64).toNat:Int)<0 then none else some (De (((De (((DG p).1.getD 2 0).toNat:Int)).toNat:Int)*2^(min ((8:UInt64).toNat:Int).toNat 16)))).bind fun x54=>(putR p42.2 (De (FA .or .u16 (x54.toNat:Int) ((De (((DG p).1.getD 3 0).toNat:Int)).toNat:Int)))).bind (fun(p59:(Bool×A8))=>some (p59.1,p59.2))else some (false,p42.2))) ((DG p).1.getD 0 0) ((DG p).1.getD 1 0) (fun z=>rfl)
   have s2: ∀r2:A8,_:=fun r2=>eH (K:=fun x=>(putR r2 x).bind (fun(p59:(Bool×A8))=>some (p59.1,p59.2))) ((DG p).1.getD 2 0) ((DG p).1.getD 3 0) (fun z=>rfl)
   by_cases h8:l.length=8
   ·refine⟨false,r,s1.trans ?_,fun e=>(by cases e),fun _=>qn (by omega)⟩
    rw[RJ h h8];rfl
   ·obtain⟨r1,e1,hr1⟩:=XT h h8 (256*((DG p).1.getD 0 0).toNat+((DG p).1.getD 1 0).toNat)
    by_cases h7:l.length=7
    ·have hp2: ∀v,putR r1 v=some (false,r1):=fun v=>RJ hr1 (by simp;omega)
     refine⟨false,r1,s1.trans ?_,fun e=>(by cases e),fun _=>qn (by omega)⟩
     rw[e1]
     refine(s2 r1).trans ?_
     rw[hp2];rfl
    ·obtain⟨r2,e2,hr2⟩:=XT hr1 (by simp;have:=h.2.1;omega) (256*((DG p).1.getD 2 0).toNat+((DG p).1.getD 3 0).toNat)
     refine⟨true,r2,s1.trans ?_,fun _=>⟨_,_,qo (by have:=h.2.1;omega),by rw[dl]at hr2;exact hr2⟩,fun e=>(by cases e)⟩
     rw[e1]
     refine(s2 r1).trans ?_
     rw[e2];rfl
  ·rw[qo (by rw[qp];exact hq),qo hq]
   exact⟨false,r,rfl,fun e=>(by cases e),fun _=>rfl⟩
theorem Zb(s p:AG):Dd s p=some (decide (s.take p.length=p)):=by
 unfold Dd Cn
 by_cases h:p.length≤s.length
 ·rw[show decide ((p.length:Int)≤(s.length:Int))=true from qq (by omega),Np h]
  rfl
 ·rw[show decide ((p.length:Int)≤(s.length:Int))=false from qr (by omega),qr (p:=s.take p.length=p) fun e=>by
   have:=qv f8 e
   rw[a6]at this
   omega]
  rfl
theorem rG(s:AG):Dd s [58]=some (decide (s.head?=some 58)):=by
 rw[Zb]
 cases s with
 |nil=>rfl
 |cons c s=>
  show some (decide ([c]=[58]))=_
  by_cases h:c=58
  ·subst h;rfl
  ·rw[qr (p:=[c]=[58]) fun e=>h (gy e).1,qr (p:=(c::s).head?=some 58) fun e=>h (bf e)]
noncomputable def Wo(s7:AG×A8):Option ((AG×A8)⊕(Empty⊕(Bool×A8))):=
 (FJ s7.1 (58:UInt8)).bind fun x9=>
 if(!x9.2.2)=true then
 (tailC s7.2 x9.1).bind (fun(p14:(Bool×A8))=>
 (some (p14.1,p14.2)).map fun r=> .inr (.inr r))
 else
 (Eu x9.1).bind fun x85=>
 if(!decide (x85.2=0))=true then
 (some (false,s7.2)).map fun r=> .inr (.inr r)
 else
 (putR s7.2 x85.1).bind (fun(p89:(Bool×A8))=>
 if(!p89.1)=true then
 (some (false,p89.2)).map fun r=> .inr (.inr r)
 else
 (Dd x9.2.1 [58]).bind fun x99=>
 if(!x99)=true then
 some (.inl (x9.2.1,p89.2))
 else
 if(decide (0≤p89.2.gap_))=true then
 (some (false,p89.2)).map fun r=> .inr (.inr r)
 else
 (Ga x9.2.1 (some 1) none).bind fun x105=>
 if(decide (x105=[]))=true then
 (some (true,{p89.2 with gap_:=p89.2.n_})).map fun r=> .inr (.inr r)
 else
 some (.inl (x105,{p89.2 with gap_:=p89.2.n_})))
theorem Sx(t:AG):(AK 58 t=[[]])↔t=[]:=by
 constructor
 ·intro h
  cases t with
  |nil=>rfl
  |cons y t=>
   by_cases hy:y=58
   ·rw[AK,qn hy]at h
    exact absurd (gy h).2 (C6 t)
   ·obtain⟨a,r,e⟩:=Nr (t:=t) hy
    rw[e]at h
    have:=(gy h).1
    cases this
 ·rintro rfl;rfl
theorem ZR: ∀(n:Nat) (s:AG) (r:A8) (l:List Nat) (gp:Option Nat),s.length≤n→n<1073741824→XM r l gp→
  ∃b r',iter Wo (s,r)=some (.inr (b,r'))∧(b=true→ ∃l' gp',lG gp l (AK 58 s)=some (l',gp')∧XM r' l' gp')∧(b=false→lG gp l (AK 58 s)=none):=by
 intro n
 induction n with
 |zero=>
  intro s r l gp hs hn h
  obtain rfl:s=[]:=fb.1 (by omega)
  obtain⟨b,r',e,h1,h2⟩:=dN h [] (by decide)
  refine⟨b,r',Bm ?_,h1,h2⟩
  unfold Wo
  have hc:FJ ([]:AG) 58=some ([],[],false):=by
   rcases XZ [] 58 (by decide)with ⟨_,e⟩|⟨p,q,e,_⟩
   ·exact e
   ·simp at e
  rw[hc,aa]
  dsimp only
  rw[qn (by decide),e];rfl
 |succ n ih=>
  intro s r l gp hs hn h
  rcases XZ s 58 (by omega)with ⟨hfree,hc⟩|⟨p,q,rfl,hfree,hc⟩
  ·obtain⟨b,r',e,h1,h2⟩:=dN h s (by omega)
   rw[G8 hfree]
   refine⟨b,r',Bm ?_,h1,h2⟩
   unfold Wo
   dsimp only
   rw[hc,aa]
   dsimp only
   rw[qn (by decide),e];rfl
  ·have hpq:p.length+q.length+1≤n+1:=by simp at hs;omega
   rw[Gb hfree]
   have h0:Wo (p++58::q,r)=(Eu p).bind fun x85=>
     if(!decide (x85.2=0))=true then
     (some (false,r)).map fun r=> .inr (.inr r)
     else
     (putR r x85.1).bind (fun(p89:(Bool×A8))=>
     if(!p89.1)=true then
     (some (false,p89.2)).map fun r=> .inr (.inr r)
     else
     (Dd q [58]).bind fun x99=>
     if(!x99)=true then
     some (.inl (q,p89.2))
     else
     if(decide (0≤p89.2.gap_))=true then
     (some (false,p89.2)).map fun r=> .inr (.inr r)
     else
     (Ga q (some 1) none).bind fun x105=>
     if(decide (x105=[]))=true then
     (some (true,{p89.2 with gap_:=p89.2.n_})).map fun r=> .inr (.inr r)
     else
     some (.inl (x105,{p89.2 with gap_:=p89.2.n_}))):=by
    unfold Wo
    dsimp only
    rw[hc,aa]
    rfl
   rw[dX p (by omega),aa]at h0
   have hsplit: ∃u v,AK 58 q=u::v:=cn (C6 q)
   obtain⟨u,v,euv⟩:=hsplit
   rw[euv,lG]
   cases hg:YS p with
   |none=>
    rw[hg]at h0
    exact⟨false,r,Bm h0,fun e=>(by cases e),fun _=>rfl⟩
   |some x=>
    rw[hg]at h0
    dsimp only at h0 ⊢
    rw[qo (by simp)]at h0
    by_cases h8:l.length=8
    ·rw[RJ h h8]at h0
     rw[qn h8]
     exact⟨false,r,Bm h0,fun e=>(by cases e),fun _=>rfl⟩
    ·obtain⟨r1,e1,hr1⟩:=XT h h8 x
     rw[e1,aa,rG]at h0
     rw[qo h8]
     simp only[kr,au,qu,aa]at h0
     by_cases hq:q.head?=some 58
     ·obtain⟨t,rfl⟩: ∃t,q=58::t:=by
       cases q with
       |nil=>cases hq
       |cons c t=>exact⟨t,by rw[bf hq]⟩
      have ht:t.length≤n:=by simp at hpq;omega
      rw[AK,qn rfl]at euv
      obtain⟨rfl,rfl⟩:=gy euv
      rw[qq hq]at h0
      simp only[kr,au,qu]at h0
      rw[qn ⟨rfl,C6 t⟩]
      cases gp with
      |some g=>
       have hgap:r1.gap_=(g:Int):=hr1.2.2.2
       rw[qn (by rw[hgap,qp];omega)]at h0
       exact⟨false,r1,Bm h0,fun e=>(by cases e),fun _=>qn rfl⟩
      |none=>
       have hgap:r1.gap_= -1:=hr1.2.2.2
       rw[qo (by rw[hgap];decide),show((1:Int))=((1:Nat):Int)from rfl,FH (by simp),aa]at h0
       have hd:(58::t).drop 1=t:=rfl
       rw[hd]at h0
       rw[qo (by simp)]
       have hr2:XM {r1 with gap_:=r1.n_} (l++[x]) (some (l.length+1)):=by
        refine⟨hr1.1,hr1.2.1,hr1.2.2.1,?_⟩
        show r1.n_=((l.length+1:Nat):Int)
        rw[hr1.1];simp
       by_cases h0':t=[]
       ·rw[qn (qq h0')]at h0
        rw[qn ((Sx t).2 h0')]
        exact⟨true,_,Bm h0,fun _=>⟨_,_,rfl,hr2⟩,fun e=>(by cases e)⟩
       ·rw[qo (by rw[qp];exact h0')]at h0
        rw[qo (fun e=>h0' ((Sx t).1 e)),BN h0]
        exact ih t _ _ _ ht (by omega) hr2
     ·rw[qr hq]at h0
      simp only[Bool.not_false,qt]at h0
      have hne: ¬(u=[]∧v≠[]):=by
       rintro⟨rfl,hv⟩
       cases q with
       |nil=>exact hv (gy euv).2.symm
       |cons c t=>
        have hc58:c≠58:=fun e=>hq (by rw[e];rfl)
        obtain⟨a,r',e⟩:=Nr (t:=t) hc58
        rw[e]at euv
        have:=(gy euv).1
        cases this
      rw[qo hne,BN h0,←euv]
      exact ih q _ _ _ (by omega) (by omega) hr1
end
section
theorem yI{σ β:Type}(n:Nat)(S:Nat→σ){F:σ→Option (σ⊕β)}{r:β}{s:σ}(h0:s=S 0)(h1: ∀i,i<n→F (S i)=some (.inl (S (i+1))))(h2:F (S n)=some (.inr r)):iter F s=some r:=by
 subst h0
 have key: ∀k,k≤n→iter F (S (n-k))=some r:=by
  intro k
  induction k with
  |zero=>intro _;exact Bm h2
  |succ k ih=>
   intro hk
   rw[BN (h1 (n-(k+1)) (by omega)),show n-(k+1)+1=n-k by omega]
   exact ih (by omega)
 have:=key n (be _)
 rwa [jq]at this
def OD(s:AG):Option (List Nat×Option Nat):=
 if s.take 2=[58,58]then(if s.drop 2=[]then some ([],some 0)else lG (some 0) [] (AK 58 (s.drop 2)))else lG none [] (AK 58 s)
def pL(l:List Nat):Option Nat→Option (List Nat)
 |none=>if l.length=8 then some l else none
 |some g=>if l.length=8 then none else some (l.take g++aq (8-l.length) 0++l.drop g)
theorem sM{s b:AG}(h:It s=some ([],b)):s=58::58::b:=by
 match s,h with
 |[],h=>simp[It]at h
 |[_],h=>simp[It]at h
 |x::y::r,h=>
  rw[It]at h
  split at h
  ·rename_i hc
   obtain⟨rfl,rfl⟩:=hc
   cases h;rfl
  ·obtain⟨q,_,hq⟩:=aj.1 h
   cases hq
theorem take_two{s:AG}(h:s.take 2=[58,58]):s=58::58::s.drop 2:=by
 have:=fq 2 s
 rw[h]at this
 exact this.symm
theorem pJ(s:AG):(∀l gp,OD s=some (l,gp)→l.length≤8∧ ∀g,gp=some g→g≤l.length)∧pK s=(match OD s with|none=>none|some (l,gp)=>(pL l gp).map Wc):=by
 unfold OD pK
 by_cases h2:s.take 2=[58,58]
 ·rw[qn h2]
  have hs:=take_two h2
  generalize s.drop 2=b at hs ⊢
  subst hs
  rw[vT]
  by_cases hb:b=[]
  ·rw[qn hb]
   subst hb
   refine⟨fun l gp h=> ?_,rfl⟩
   cases h
   exact⟨by simp,fun g h=>(by cases h;simp)⟩
  ·rw[qo hb,iI _ _ _ (C6 b) (by simp)]
   have e1:JD false []=some []:=rfl
   have e2:JD true b=DM true (AK 58 b):=by unfold JD;rw[qo hb]
   dsimp only
   rw[e1,e2]
   cases DM true (AK 58 b)with
   |none=>exact⟨fun l gp h=>(by cases h),rfl⟩
   |some m=>
    simp only[aa,bz,da,dw]
    by_cases h8:m.length≤8
    ·rw[qn h8]
     refine⟨fun l gp h=> ?_,?_⟩
     ·cases h
      exact⟨h8,fun g h=>(by cases h;omega)⟩
     ·unfold pL
      dsimp only
      by_cases h7:m.length=8
      ·rw[qn h7,qo (by omega)];rfl
      ·rw[qo h7,qn (by omega)]
       simp
    ·rw[qo h8,qo (by omega)]
     exact⟨fun l gp h=>(by cases h),rfl⟩
 ·rw[qo h2,rdC_none s.length s [] (be _) (by simp)]
  cases hg:It s with
  |none=>
   dsimp only
   have e1:JD true s=if s=[]then some []else DM true (AK 58 s):=rfl
   rw[e1]
   by_cases h0:s=[]
   ·subst h0
    rw[qn rfl]
    have e2:DM true (AK 58 [])=none:=rfl
    rw[e2]
    exact⟨fun l gp h=>(by cases h),rfl⟩
   ·rw[qo h0]
    cases DM true (AK 58 s)with
    |none=>exact⟨fun l gp h=>(by cases h),rfl⟩
    |some m=>
     simp only[aa,bz,da,dw]
     by_cases h8:m.length≤8
     ·rw[qn h8]
      refine⟨fun l gp h=> ?_,?_⟩
      ·cases h
       exact⟨h8,fun g h=>(by cases h)⟩
      ·unfold pL
       dsimp only
       by_cases h7:m.length=8
       ·rw[qn h7,qn h7];rfl
       ·rw[qo h7,qo h7];rfl
     ·rw[qo h8,qo (by omega)]
      exact⟨fun l gp h=>(by cases h),rfl⟩
  |some q=>
   obtain⟨a,b⟩:=q
   dsimp only
   have ha:a≠[]:=by
    rintro rfl
    have:=sM hg
    rw[this]at h2
    exact h2 rfl
   have e1:JD false a=DM false (AK 58 a):=by unfold JD;rw[qo ha]
   have e2:JD true b=if b=[]then some []else DM true (AK 58 b):=rfl
   rw[e1,e2]
   cases DM false (AK 58 a)with
   |none=>exact⟨fun l gp h=>(by cases h),rfl⟩
   |some m=>
    simp only[aa]
    unfold aL
    simp only[bz,da,dw]
    by_cases h8:m.length≤8
    ·rw[qn h8]
     by_cases hb:b=[]
     ·rw[qn hb,qn hb]
      refine⟨fun l gp h=> ?_,?_⟩
      ·cases h
       exact⟨h8,fun g h=>by cases h;exact be _⟩
      ·unfold pL
       simp only[aa,bz,ja,kj,List.drop_length]
       by_cases h7:m.length=8
       ·rw[qn h7,qo (by omega)];rfl
       ·rw[qo h7,qn (by omega)];simp
     ·rw[qo hb,qo hb]
      cases DM true (AK 58 b)with
      |none=>exact⟨fun l gp h=>(by cases h),rfl⟩
      |some m'=>
       simp only[aa]
       by_cases h9:m.length+m'.length≤8
       ·rw[qn h9]
        refine⟨fun l gp h=> ?_,?_⟩
        ·cases h
         exact⟨by simpa using h9,fun g h=>(by cases h;simp)⟩
        ·unfold pL
         simp only[aw,il,ez]
         by_cases h7:m.length+m'.length=8
         ·rw[qn h7,qo (by omega)];rfl
         ·rw[qo h7,qn (by omega),show 8-(m.length+m'.length)=8-m.length-m'.length by omega];rfl
       ·rw[qo h9,qo (by omega)]
        exact⟨fun l gp h=>(by cases h),rfl⟩
    ·rw[qo h8]
     refine⟨fun l gp h=>(by cases h),?_⟩
     by_cases hb:b=[]
     ·rw[qn hb]
      simp only[aa,bz]
      rw[qo (by omega)]
     ·rw[qo hb]
      cases DM true (AK 58 b)with
      |none=>rfl
      |some m'=>
       simp only[aa]
       rw[qo (by omega)]
noncomputable def readC(a0:AG):Option (Bool×A8):=
 (Dd a0 [58,58]).bind fun x4=>
 (if x4=true then
 let x107:={(⟨(ak 8 dr).z,0,(-1)⟩:A8)with gap_:=0}
 (Ga a0 (some 2) none).bind fun x108=>
 if(decide (x108=[]))=true then
 (some (true,x107)).map fun r=> .inr r
 else
 some (.inl (x108,x107))
 else
 some (.inl (a0,(⟨(ak 8 dr).z,0,(-1)⟩:A8))):Option ((AG×A8)⊕_)).bind (a8 (fun(p5:(AG×A8))=>
 (iter Wo (p5.1,p5.2)).bind (a8 (fun _:Empty=>none) some)) some)
theorem xK(s:AG)(hl:s.length<1073741824): ∃b r',readC s=some (b,r')∧(b=true→ ∃l' gp',OD s=some (l',gp')∧XM r' l' gp')∧(b=false→OD s=none):=by
 unfold readC OD
 rw[Zb,aa]
 have ok0:XM (⟨(ak 8 dr).z,0,0⟩:A8) [] (some 0):=⟨rfl,by simp,rfl,rfl⟩
 have ok1:XM (⟨(ak 8 dr).z,0,-1⟩:A8) [] none:=⟨rfl,by simp,rfl,rfl⟩
 have hlen:([58,58]:AG).length=2:=rfl
 rw[hlen]
 by_cases h2:s.take 2=[58,58]
 ·have h2l:2≤s.length:=by have:=qv f8 h2;rw[a6]at this;simp at this;omega
  rw[qn (qq h2),qn h2]
  dsimp only
  rw[show(2:Int)=((2:Nat):Int)from rfl,FH h2l,aa]
  by_cases hb:s.drop 2=[]
  ·rw[qn (qq hb),qn hb]
   exact⟨true,_,rfl,fun _=>⟨_,_,rfl,ok0⟩,fun e=>(by cases e)⟩
  ·rw[qo (by rw[qp];exact hb),qo hb]
   obtain⟨b,r',e,q1,q2⟩:=ZR s.length (s.drop 2) _ [] (some 0) (by simp) hl ok0
   refine⟨b,r',?_,q1,q2⟩
   rw[aa]
   show(iter Wo (s.drop 2,_)).bind _=_
   rw[e];rfl
 ·rw[qo (by rw[qp];exact h2),qo h2]
  obtain⟨b,r',e,q1,q2⟩:=ZR s.length s _ [] none (be _) hl ok1
  refine⟨b,r',?_,q1,q2⟩
  rw[aa]
  show(iter Wo (s,_)).bind _=_
  rw[e];rfl
noncomputable def gJ(r:A8):Option ((Ar UInt16 8)×Bool):=
 if(decide (r.gap_<0))=true then
 some (r.g_,decide (r.n_=8))
 else
 if(decide (r.n_=8))=true then
 some (r.g_,false)
 else
 ((Qr 8 none (some r.gap_)).map fun p=>p.2).bind fun x126=>
 (if 0+x126≤8 then XB ((ak 8 dr).z) 0 8 ((r.g_.l.drop 0).take x126)else none).bind fun x127=>
 let x131:=ql qm (ql qm (8-r.n_)+r.gap_)
 (Qr 8 (some x131) none).bind fun x132=>
 (Qr 8 (some r.gap_) (some r.n_)).bind fun x135=>
 (if x135.1+(x135.2-x135.1)≤8 then XB x127 x132.1 (x132.2-x132.1) ((r.g_.l.drop x135.1).take (x135.2-x135.1))else none).bind fun x136=>
 some (x136,true)
abbrev zG:Ar UInt16 8:=(ak 8 dr).z
theorem z8:zG.l=aq 8 0:=rfl
theorem lR{r:A8}{l:List Nat}{gp:Option Nat}(h:XM r l gp)(hg: ∀g,gp=some g→g≤l.length): ∃G b,gJ r=some (G,b)∧(b=true→ ∃L,pL l gp=some L∧L.length=8∧G.l=L.map bw)∧(b=false→pL l gp=none):=by
 obtain⟨h1,h2,h3,h4⟩:=h
 unfold gJ pL
 cases gp with
 |none=>
  have h4':r.gap_= -1:=h4
  rw[h4',qn (by decide),h1]
  dsimp only
  by_cases h8:l.length=8
  ·rw[qn h8]
   refine⟨_,_,rfl,fun _=>⟨l,rfl,h8,?_⟩,fun e=> ?_⟩
   ·rw[←h3,av (by rw[r.g_.len];omega)]
   ·rw[decide_eq_false_iff_not]at e;omega
  ·rw[qo h8]
   refine⟨_,_,rfl,fun e=> ?_,fun _=>rfl⟩
   rw[qp]at e;omega
 |some g=>
  have hgl:=hg g rfl
  have h4':r.gap_=(g:Int):=h4
  rw[h4',qo (by rw[qp];omega),h1]
  dsimp only
  by_cases h8:l.length=8
  ·rw[qn (by rw[h8];rfl),qn h8]
   exact⟨_,_,rfl,fun e=>(by cases e),fun _=>rfl⟩
  ·rw[qo (by rw[qp];omega),qo h8]
   have hgt:r.g_.l.take g=(l.take g).map bw:=by
    rw[oo,←h3,ji,f3 hgl]
   have hgd:(r.g_.l.drop g).take (l.length-g)=(l.drop g).map bw:=by
    rw[List.map_drop,←h3,gb]
   have hc1:(if 0+g≤8 then XB zG 0 8 ((r.g_.l.drop 0).take g)else none)=some (⟨(l.take g).map bw++aq (8-g) 0,by simp;omega⟩:Ar UInt16 8):=by
    rw[qn (by omega),db,hgt]
    unfold XB
    rw[dif_pos (by omega)]
    congr 1
    apply pi
    show zG.l.take 0++_++zG.l.drop _=_
    rw[z8]
    simp only[j5,dw,e9,a6,List.drop_replicate]
    rw[av (by simp;omega)]
    congr 2
    omega
   have hc2: ∀k,k=8-l.length+g→(if g+(l.length-g)≤8 then XB (⟨(l.take g).map bw++aq (8-g) 0,by simp;omega⟩:Ar UInt16 8) k (8-k) ((r.g_.l.drop g).take (l.length-g))else none)=some (⟨(l.take g++aq (8-l.length) 0++l.drop g).map bw,by simp;omega⟩:Ar UInt16 8):=by
    rintro k rfl
    rw[qn (by omega),hgd]
    unfold XB
    rw[dif_pos (by omega)]
    congr 1
    apply pi
    have e1:((l.take g).map bw).length=g:=by rw[e9,a6];omega
    have A1:((l.take g).map bw++aq (8-g) 0).take (8-l.length+g)=(l.take g).map bw++aq (8-l.length) 0:=by
     rw[gw,e1,av (by rw[e1];omega),List.take_replicate,show min (8-l.length+g-g) (8-g)=8-l.length by omega]
    have A2: ∀m,8≤m→((l.take g).map bw++aq (8-g) 0).drop m=[]:=fun m hm=>jp (by simp;omega)
    have A3:((l.drop g).map bw).take (8-(8-l.length+g))=(l.drop g).map bw:=av (by simp;omega)
    show((l.take g).map bw++aq (8-g) 0).take (8-l.length+g)++((l.drop g).map bw).take (8-(8-l.length+g))++((l.take g).map bw++aq (8-g) 0).drop _=(l.take g++aq (8-l.length) 0++l.drop g).map bw
    rw[A1,A3,A2 _ (by simp;omega),dv,de,de,List.map_replicate]
    rfl
   refine⟨(⟨(l.take g++aq (8-l.length) 0++l.drop g).map bw,by simp;omega⟩:Ar UInt16 8),true,?_,fun _=>⟨_,rfl,by simp;omega,rfl⟩,fun e=>(by cases e)⟩
   refine(qv (fun x:Option Nat=>x.bind _) (tW (n:=8) (m:=g) (by omega))).trans ?_
   refine(qv (fun x:Option (Ar UInt16 8)=>x.bind _) hc1).trans ?_
   have hw:ql qm (ql qm (8-(l.length:Int))+(g:Int))=((8-l.length+g:Nat):Int):=by
    rw[show(8:Int)-(l.length:Int)=((8-l.length:Nat):Int) by omega,Bc (by omega),show((8-l.length:Nat):Int)+(g:Int)=((8-l.length+g:Nat):Int) by omega,Bc (by omega)]
   refine(qv (fun x:Int=>(Qr 8 (some x) none).bind _) hw).trans ?_
   refine(qv (fun x:Option (Nat×Nat)=>x.bind _) (pR (n:=8) (a:=8-l.length+g) (by omega))).trans ?_
   refine(qv (fun x:Option (Nat×Nat)=>x.bind _) (pS (n:=8) hgl (by omega))).trans ?_
   exact(qv (fun x:Option (Ar UInt16 8)=>x.bind _) (hc2 _ rfl)).trans rfl
end
section
def Z6(L:List Nat):Nat→Ar UInt8 16
 |0=>(ak 16 a7).z
 |i+1=>((Z6 L i).set (2*i) (bc (L.getD i 0/256))).set (2*i+1) (bc (L.getD i 0%256))
theorem WE{L:List Nat}(h:L.length=8):Z6 L 8=dH (Wc L):=by
 match L,h with
 |[a,b,c,d,e,f,g,k],_=>rfl
theorem hi_byte(n:Nat):HL ((De (jl ((bw n).toNat:Int) 256)).toNat:Int)=bc (n/256):=by
 have h:=(bw n).toNat_lt
 have e:jl ((bw n).toNat:Int) 256=(((bw n).toNat/256:Nat):Int):=by
  rw[l7 _ (by decide)];rfl
 rw[e,KU (by omega),gn]
 apply ef.1
 show(bc _).toNat=_
 rw[fk,fk];omega
theorem lo_byte(n:Nat):HL ((bw n).toNat:Int)=bc (n%256):=by
 rw[gn]
 apply ef.1
 show(bc _).toNat=_
 rw[fk,fk];omega
noncomputable def uW(G:Ar UInt16 8)(s148:Int×(Ar UInt8 16)):Option ((Int×(Ar UInt8 16))⊕((Ar UInt8 16)⊕((Ar UInt8 16)×Int))):=
 if(decide (s148.1<8))=true then
 (Dj G.l s148.1).bind fun x151=>
 let x154:=ql qm (ql qm (2*s148.1)+1)
 (if((8:UInt64).toNat:Int)<0 then none else some (De (jl (x151.toNat:Int) (2^(min ((8:UInt64).toNat:Int).toNat 16))))).bind fun x155=>
 (BU 16 (ql qm (2*s148.1))).bind fun x158=>
 (if x158<16 then some (s148.2.set x158 (HL (x155.toNat:Int)))else none).bind fun x159=>
 (BU 16 x154).bind fun x160=>
 (if x160<16 then some (x159.set x160 (HL (x151.toNat:Int)))else none).bind fun x161=>
 some (.inl (ql qm (s148.1+1),x161))
 else
 some (.inr (.inl s148.2))
theorem wY{G:Ar UInt16 8}{L:List Nat}(hL:L.length=8)(hG:G.l=L.map bw){i:Nat}(hi:i<8):uW G ((i:Int),Z6 L i)=some (.inl (((i+1:Nat):Int),Z6 L (i+1))):=by
 have e8:(2:Int)^(min ((8:UInt64).toNat:Int).toNat 16)=256:=by decide
 have eg:L.getD i 0=L[i]'(by omega):=by rw[kc,ad (by omega)];rfl
 unfold uW
 dsimp only
 rw[qn (by rw[qp];omega),B5,hG,ff,ad (by omega),an,aa,←eg]
 rw[qo (by decide),aa,e8]
 rw[show(2:Int)*(i:Int)=((2*i:Nat):Int) by omega,Bc (by omega),BV (by omega),aa,qn (by omega),aa,show((2*i:Nat):Int)+1=((2*i+1:Nat):Int) by omega,Bc (by omega),BV (by omega),aa,qn (by omega),aa,hi_byte,lo_byte,show(i:Int)+1=((i+1:Nat):Int) by omega,Bc (by omega)]
 rfl
theorem tU{G:Ar UInt16 8}{L:List Nat}(hL:L.length=8)(hG:G.l=L.map bw):iter (uW G) (0,(ak 16 a7).z)=some (.inl (dH (Wc L))):=by
 rw[←WE hL]
 refine yI 8 (fun i=>((i:Int),Z6 L i)) rfl (fun i hi=>wY hL hG hi) ?_
 rfl
theorem ZS(s:AG):NE s=(readC s).bind fun p3=>if(!p3.1)=true then some ((ak 16 a7).z,5)else(gJ p3.2).bind fun p113=>if(!p113.2)=true then some ((ak 16 a7).z,5)else(iter (uW p113.1) (0,(ak 16 a7).z)).bind (a8 (fun p=>some (p,(0:Int))) some):=rfl
theorem pI(s:AG)(hl:s.length<1073741824):NE s=some (match pK s with|some l=>(dH l,0)|none=>((ak 16 a7).z,5)):=by
 obtain⟨hc1,hc2⟩:=pJ s
 obtain⟨b,r,e,q1,q2⟩:=xK s hl
 rw[ZS,e,aa,hc2]
 cases b with
 |false=>rw[q2 rfl];rfl
 |true=>
  obtain⟨l,gp,h1,h2⟩:=q1 rfl
  obtain⟨G,b',e',w1,w2⟩:=lR h2 (hc1 l gp h1).2
  rw[h1]
  dsimp only
  rw[qo (by decide),e',aa]
  cases b' with
  |false=>rw[w2 rfl];rfl
  |true=>
   obtain⟨L,z1,z2,z3⟩:=w1 rfl
   rw[z1]
   dsimp only
   rw[qo (by decide),tU z2 z3]
   rfl
theorem wK(l:AG)(c:UInt8)(hl:l.length<1099511627776):FJ l c=some (cY c l):=by
 rcases XZ l c hl with ⟨h,e⟩|⟨p,q,rfl,h,e⟩
 ·have:c∉l:=fun h'=>h c h' rfl
  rw[e];unfold cY;rw[qo this]
 ·have:c∉p:=fun h'=>h c h' rfl
  rw[e,pG this]
theorem pF(l:AG)(c:UInt8):(cY c l).2.2=decide (c∈l):=by
 unfold cY
 by_cases h:c∈l
 ·rw[qn h,qq h]
 ·rw[qo h,qr h]
theorem zY(a:Ar UInt8 4):KT a=some ⟨4,dH (a.l++aq 12 0)⟩:=by
 obtain⟨l,h⟩:=a
 match l,h with
 |[a,b,c,d],_=>rfl
theorem uF(s:AG)(hl:s.length<1073741824):PN s=some (Qg s):=by
 unfold PN Qg
 rw[wK s 58 (by omega),aa,pF]
 by_cases h:(58:UInt8)∈s
 ·rw[qn (qq h),qn h,pI s hl,aa]
  cases pK s with
  |none=>rfl
  |some l=>rfl
 ·rw[qo (by rw[qp];exact h),qo h,YY s hl,aa]
  unfold W1
  dsimp only
  by_cases hq:(DG s).2=0
  ·rw[qo (by simp[hq]),qn hq,zY]
   unfold ar4
   rw[dif_pos (Vw s)]
   rfl
  ·rw[qn (by simp[hq]),qo hq]
   rfl
theorem eD(a b:UInt8)(r:AG):i' ([93,58]:AG) (a::b::r)=decide (a=93∧b=58):=by
 by_cases h:a=93∧b=58
 ·obtain⟨rfl,rfl⟩:=h;simp[i']
 ·rw[qr h]
  simp only[i',kp,Bool.and_eq_false_iff,beq_eq_false_iff_ne]
  rcases Classical.not_and_iff_not_or_not.1 h with h|h
  ·exact .inl fun e=>h e.symm
  ·exact .inr fun e=>h e.symm
theorem Tj: ∀s:AG,(So s=none∧Lib.index s [93,58]= -1)∨ ∃p q,s=p++93::58::q∧So s=some (p,q)∧Lib.index s [93,58]=(p.length:Int)
 |[]=> .inl ⟨rfl,rfl⟩
 |[a]=> .inl ⟨rfl,by simp[Lib.index,i']⟩
 |a::b::r=>by
  by_cases h:a=93∧b=58
  ·obtain⟨rfl,rfl⟩:=h
   exact .inr ⟨[],r,rfl,by rw[So,qn ⟨rfl,rfl⟩],by rw[Lib.index,qn (by rw[eD];rfl)];rfl⟩
  ·have hp: ¬i' ([93,58]:AG) (a::b::r)=true:=by rw[eD,qp];exact h
   rcases Tj (b::r)with ⟨h1,h2⟩|⟨p,q,h1,h2,h3⟩
   ·exact .inl ⟨by rw[So,qo h,h1];rfl,by rw[Lib.index,qo hp,h2];rfl⟩
   ·refine .inr ⟨a::p,q,by rw[h1];rfl,by rw[So,qo h,h2];rfl,?_⟩
    rw[Lib.index,qo hp,h3,qo (by rw[beq_iff_eq];omega)]
    simp
theorem cut2_val(s:AG)(hl:s.length<1073741824):Nq s [93,58]=some (match So s with|none=>(s,[],false)|some (p,q)=>(p,q,true)):=by
 have hi:Cp s [93,58]=some (Lib.index s [93,58]):=by
  unfold Cp indexS
  rw[qn (by omega)]
 unfold Nq Ge
 rw[hi,aa]
 rcases Tj s with ⟨h1,h2⟩|⟨p,q,h1,h2,h3⟩
 ·rw[h1,h2];rfl
 ·rw[h2,h3,qn (by rw[qp];omega)]
  have hlen:s.length=p.length+(q.length+2):=by rw[h1];simp
  have e2:(([93,58]:AG).length:Int)=2:=rfl
  rw[Np (by omega),aa,e2,show(p.length:Int)+2=((p.length+2:Nat):Int) by omega,Bc (by omega),FH (by omega),aa,h1]
  have a1:(p++93::58::q).take p.length=p:=List.take_left
  have a2:(p++93::58::q).drop (p.length+2)=q:=by
   rw[←ck,n6];rfl
  rw[a1,a2]
  rfl
theorem cutp_val(s:AG)(hl:s.length<1073741824):H4 s [91]=some (if s.head?=some 91 then(s.drop 1,true)else(s,false)):=by
 have hp:Cn s [91]=some (decide (s.head?=some 91)):=by
  cases s with
  |nil=>rfl
  |cons a r=>
   unfold Cn
   rw[show decide ((([91]:AG).length:Int)≤((a::r).length:Int))=true from qq (by simp only[bb,bz];omega),show(([91]:AG).length:Int)=((1:Nat):Int)from rfl,Np (by simp)]
   show some (decide ([a]=[91]))=_
   congr 1
   simp
 unfold H4 E3
 rw[hp,aa]
 by_cases h:s.head?=some 91
 ·have hn:1≤s.length:=by cases s with
   |nil=>simp at h
   |cons a r=>simp
  rw[qo (by rw[qq h];decide),qn h,show(([91]:AG).length:Int)=((1:Nat):Int)from rfl,FH hn]
  rfl
 ·rw[qn (by rw[qr h];decide),qo h]
  rfl
theorem pH{s p q:AG}(h:So s=some (p,q)):p.length+q.length≤s.length:=by
 rcases Tj s with ⟨h1,_⟩|⟨p',q',h1,h2,_⟩
 ·rw[h1]at h;cases h
 ·rw[h2]at h;cases h
  have:=qv f8 h1
  simp at this;omega
theorem sI(s:AG)(hl:s.length<1073741824): ∃a b c,IQ s=some (a,b,c)∧eX s=(if c=true then some (a,b)else none)∧a.length≤s.length∧b.length≤s.length:=by
 unfold IQ eX
 rw[cutp_val s hl,aa]
 by_cases h:s.head?=some 91
 ·rw[qn h,qn h]
  dsimp only
  rw[qn rfl,cut2_val _ (by simp;omega),aa]
  cases hc:So (s.drop 1)with
  |none=>exact⟨_,_,_,rfl,rfl,by simp,by simp⟩
  |some pq=>
   obtain⟨p,q⟩:=pq
   have hlen:=pH hc
   rw[bh]at hlen
   dsimp only
   refine⟨p,q,decide (58∈p),?_,?_,by omega,by omega⟩
   ·rw[cZ p 58 (by omega)];rfl
   ·rw[aa]
    by_cases hm:(58:UInt8)∈p
    ·rw[qn hm,qn (qq hm)]
    ·rw[qo hm,qo (by rw[qp];exact hm)]
 ·rw[qo h,qo h]
  dsimp only
  rw[qo (by decide)]
  have hi:Dj ([58]:AG) 0=some 58:=rfl
  rw[hi,aa,wK s 58 (by omega),aa]
  refine⟨_,_,_,rfl,?_,?_,?_⟩
  ·rw[pF]
   by_cases hm:(58:UInt8)∈s
   ·rw[qn hm,qn (qq hm)]
   ·rw[qo hm,qo (by rw[qp];exact hm)]
  ·unfold cY
   split
   ·exact ne (List.takeWhile_sublist _)
   ·exact be _
  ·unfold cY
   split
   ·have:=ne (List.dropWhile_sublist (l:=s) (fun x=>x != 58))
    simp only[bh];omega
   ·simp
theorem QO(s:AG)(hl:s.length<1073741824):HN s=some (IE s):=by
 obtain⟨a,b,c,h1,h2,h3,h4⟩:=sI s hl
 unfold HN IE
 rw[h1,aa,h2]
 cases c with
 |false=>rfl
 |true=>
  rw[qn rfl]
  dsimp only
  rw[qo (by decide),uF a (by omega),aa]
  by_cases ha:(Qg a).2=0
  ·rw[qo (by simp[ha]),qn ha,Py b _ (by omega),aa]
   unfold ZO
   have em:(65535:UInt64).toNat=65535:=rfl
   rw[em]
   dsimp only
   by_cases hd:(DV b 65535).2=0
   ·have hb:(DV b 65535).1≤65535:=by
     unfold DV at hd ⊢
     split
     ·simp
     ·split
      ·simp
      ·dsimp only;omega
    rw[qo (by simp[hd]),qn hd]
    have et:(ei (DV b 65535).1).toNat=(DV b 65535).1:=by rw[io];omega
    rw[et]
    by_cases h0:(DV b 65535).1=0
    ·rw[qn (by rw[qp,h0];rfl),qn h0];rfl
    ·rw[qo (by rw[qp];intro e;exact h0 (ia e)),qo h0,Bc (by omega)]
   ·rw[qn (by simp[hd]),qo hd];rfl
  ·rw[qn (by simp[ha]),qo ha];rfl
end
section
theorem cmpK1(x y:Ar UInt8 32):dA (po 32 qe) x y=decide (x=y):=
 if h:x=y then(ZT (t:=ak 32 a7) h).trans (qq h).symm else(kG (t:=ak 32 a7) h).trans (qr h).symm
theorem RY{α:Type}{bytes:Nat}{l m:List α}(h:(l.length+m.length)*bytes≤Bs):M7 bytes (GS.mk l) m=some (.mk (l++m)):=by
 unfold M7
 rw[Es,qn h]
 rfl
theorem tT(a b:List UInt8)(hl:a.length=b.length)(hb:a.length<4611686018427387904): ∀k i,a.length=i+k→a.take i=b.take i→
  iter (fun(s4:Int)=>
   if(decide (s4<(a.length:Int)))=true then
   (Dj a s4).bind fun x8=>
   (Dj b s4).bind fun x10=>
   if(!decide ((x8.toNat:Int)=(x10.toNat:Int)))=true then
   (some false).map fun r=> .inr (.inr r)
   else
   some (.inl (ql qm (s4+1)))
   else
   some (.inr (.inl ()))) (i:Int)=some (if a=b then(.inl ():Unit⊕Bool)else .inr false):=by
 intro k
 induction k with
 |zero=>
  intro i hk ht
  have hab:a=b:=by rw[av (by omega),av (by omega)]at ht;exact ht
  rw[qn hab,Bm (b:= .inl ())]
  rw[qo (by rw[qp];omega)]
 |succ k ih=>
  intro i hk ht
  have h1:i<a.length:=by omega
  have h2:i<b.length:=by omega
  by_cases h:a[i]=b[i]
  ·rw[BN (s':=((i+1:Nat):Int)),ih (i+1) (by omega) (by rw[bd h1,bd h2,ht,h])]
   rw[qn (by rw[qp];omega),B5,ad h1,aa,B5,ad h2,aa,qo (by rw[h];simp),show(i:Int)+1=((i+1:Nat):Int) by omega,Bc (by omega)]
  ·have hab:a≠b:=fun e=>h (by subst e;rfl)
   rw[qo hab,Bm (b:= .inr false)]
   rw[qn (by rw[qp];omega),B5,ad h1,aa,B5,ad h2,aa,qn]
   ·rfl
   ·have: ¬((a[i].toNat:Int)=(b[i].toNat:Int)):=fun e=>h (ef.1 (ia e))
    rw[qr this];rfl
theorem r01_same(a b:GS UInt8)(hb:a.l.length<4611686018427387904):Uj a b=some (decide (a.l=b.l)):=by
 unfold Uj
 by_cases hl:a.l.length=b.l.length
 ·dsimp only
  rw[qo (by rw[qq (by omega:((a.l.length:Int)=(b.l.length:Int)))];decide)]
  refine(qv (fun x:Option (Unit⊕Bool)=>x.bind _) (tT a.l b.l hl hb a.l.length 0 (by omega) rfl)).trans ?_
  by_cases h:a.l=b.l
  ·rw[qn h,qq h];rfl
  ·rw[qo h,qr h];rfl
 ·dsimp only
  have h: ¬a.l=b.l:=fun e=>hl (by rw[e])
  rw[qn (by rw[qr (by omega: ¬((a.l.length:Int)=(b.l.length:Int)))];rfl),qr h]
def Kt(a b:Al):Bool:=decide (a.Kind=b.Kind)&&(decide (a.Bytes.l=b.Bytes.l)&&(decide (a.To=b.To)&&(decide (a.Key=b.Key)&&decide (a.Why=b.Why))))
theorem and5'(a b c d e:Bool):((Bw a ((some b).bind fun x=>some x)).bind fun x=>(Bw x (some c)).bind fun x=>(Bw x (some d)).bind fun x=>(Bw x (some e)).bind fun x=>some x)=some (a&&(b&&(c&&(d&&e)))):=by cases a<;>cases b<;>cases c<;>cases d<;>cases e<;>rfl
theorem Wx(a b:Al):ES a b=some (Kt a b):=by
 unfold ES Kt R3
 rw[cmpE,cmpK1]
 exact and5' _ _ _ _ _
theorem Wy(a b:Al)(h:a.Bytes.l.length<4611686018427387904):MI a b=some (Kt a b):=by
 unfold MI Kt
 rw[cmpE,cmpK1,r01_same _ _ h]
 exact and5' _ _ _ _ _
def QY(e:Al):Bool:=
 if e.Kind=1∨e.Kind=4 then decide (e.To=C8)&&(decide (e.Key=zK)&&decide (e.Why=0))
 else if e.Kind=2 then Ji e.To&&decide (e.Why=0)
 else if e.Kind=3 then decide (e.To=C8)&&decide (e.Why=0)
 else if e.Kind=5 then(decide (1≤e.Why)&&decide (e.Why≤20))&&(decide (e.Bytes.l=[])&&(decide (e.To=C8)&&decide (e.Key=zK)))
 else if e.Kind=6 then Ji e.To&&(decide (e.Key=zK)&&decide (e.Why=0))
 else false
theorem b2(a b:Bool):((Bw a (some true)).bind fun x27=>(Bw x27 ((some b).bind fun x=>some x)).bind fun x=>some x)=some (a&&b):=by cases a<;>cases b<;>rfl
theorem vJ(w:Int):Mz w=some (decide (1≤w)&&decide (w≤20)):=by
 unfold Mz
 cases decide (1≤w)<;>cases decide (w≤20)<;>rfl
theorem vL{P:Int→Prop}(h1:P 1)(h2:P 2)(h3:P 3)(h4:P 4)(h5:P 5)(h6:P 6)(h: ∀k,k≠1→k≠2→k≠3→k≠4→k≠5→k≠6→P k)(k:Int):P k:=by
 by_cases e1:k=1
 ·subst e1;exact h1
 by_cases e2:k=2
 ·subst e2;exact h2
 by_cases e3:k=3
 ·subst e3;exact h3
 by_cases e4:k=4
 ·subst e4;exact h4
 by_cases e5:k=5
 ·subst e5;exact h5
 by_cases e6:k=6
 ·subst e6;exact h6
 exact h k e1 e2 e3 e4 e5 e6
theorem zE0:Aq.z=C8:=rfl
theorem zK0:(ak 32 a7).z=zK:=rfl
theorem zE1:(⟨Aw.z,0⟩:AI)=C8:=rfl
theorem zK1:(⟨[0,0,0,0,0,0,0,0,0,0,0,0,0,0,0,0,0,0,0,0,0,0,0,0,0,0,0,0,0,0,0,0],rfl⟩:Ar UInt8 32)=zK:=rfl
theorem nil_l:(GS.nil:GS UInt8).l=[]:=rfl
theorem HH(e:Al):Fj e=some (QY e):=by
 obtain⟨k,b,t,y,w⟩:=e
 have ct:(C8=t)=(t=C8):=propext eq_comm
 have cy:(zK=y)=(y=zK):=propext eq_comm
 have cw:(0=w)=(w=0):=propext eq_comm
 revert k
 refine vL ?_ ?_ ?_ ?_ ?_ ?_ ?_
 ·simp[Fj,QY,Wx,Kt,Bw,zE0,zK0,zE1,zK1]
 ·simp[Fj,QY,Wx,Kt,Bw,zE0,zK0,zE1,zK1,Tk]
  by_cases hw:w=0<;>cases Ji t<;>simp[hw]
 ·simp[Fj,QY,Wx,Kt,Bw,zE0,zK0,zE1,zK1]
 ·simp[Fj,QY,Wx,Kt,Bw,zE0,zK0,zE1,zK1]
 ·simp only[Fj,QY,Wx,Kt,zE0,zK0,zE1,zK1,nil_l,vJ]
  by_cases h1:1≤w<;>by_cases h2:w≤20<;>simp[h1,h2,Bw]<;>rfl
 ·simp[Fj,QY,Wx,Kt,Bw,zE0,zK0,zE1,zK1,Tk]
  by_cases hw:w=0<;>by_cases hy:y=zK<;>cases Ji t<;>simp[hw,hy]
 ·intro k h1 h2 h3 h4 h5 h6
  simp[Fj,QY,Wx,Bw,h1,h2,h3,h4,h5,h6]
theorem dY(e:Al)(hb:e.Bytes.l.length<4611686018427387904):E1 e=some (QY e):=by
 obtain⟨k,b,t,y,w⟩:=e
 have hb:b.l.length<4611686018427387904:=hb
 have hn:(GS.nil:GS UInt8).l.length<4611686018427387904:=by decide
 have ct:(C8=t)=(t=C8):=propext eq_comm
 have cy:(zK=y)=(y=zK):=propext eq_comm
 have cw:(0=w)=(w=0):=propext eq_comm
 have cb:(([]:List UInt8)=b.l)=(b.l=[]):=propext eq_comm
 revert k
 refine vL ?_ ?_ ?_ ?_ ?_ ?_ ?_
 ·simp[E1,QY,Wy,hb,Kt,Bw,HD,zE0,zK0]
  simp only[ct,cy,cw]
  by_cases hw:w=0<;>by_cases hy:y=zK<;>by_cases ht:t=C8<;>simp[hw,hy,ht]
 ·simp[E1,QY,Wy,hb,Kt,Bw,HD,zE0,zK0,Vu]
  simp only[ct,cy,cw]
  by_cases hw:w=0<;>simp[hw]
 ·simp[E1,QY,Wy,hb,Kt,Bw,HD,zE0,zK0]
  simp only[ct,cy,cw]
  by_cases hw:w=0<;>by_cases ht:t=C8<;>simp[hw,ht]
 ·simp[E1,QY,Wy,hb,Kt,Bw,HD,zE0,zK0]
  simp only[ct,cy,cw]
  by_cases hw:w=0<;>by_cases hy:y=zK<;>by_cases ht:t=C8<;>simp[hw,hy,ht]
 ·by_cases h1:w<1
  ·have h1': ¬1≤w:=by omega
   simp[E1,QY,Bw,HD,h1,h1']
  ·have h1':1≤w:=by omega
   by_cases h2:20<w
   ·have h2': ¬w≤20:=by omega
    simp[E1,QY,Bw,HD,h1,h1',h2,h2']
   ·have h2':w≤20:=by omega
    simp[E1,QY,Wy,hn,Kt,Bw,HD,zE0,zK0,h1,h2]
    have hb0':MI ⟨5, .nil,C8,zK,w⟩ ⟨5,b,t,y,w⟩=some (decide (b.l=[])&&(decide (t=C8)&&decide (y=zK))):=by
     rw[Wy _ _ hn]
     unfold Kt
     simp[ct,cy,cb,nil_l]
    rw[hb0',qq h1',qq h2']
    by_cases hb0:b.l=[]<;>by_cases hy:y=zK<;>by_cases ht:t=C8<;>simp[hb0,hy,ht]
 ·simp[E1,QY,Wy,hb,Kt,Bw,HD,zE0,zK0,Vu]
  simp only[ct,cy,cw]
  by_cases hw:w=0<;>by_cases hy:y=zK<;>simp[hw,hy]
 ·intro k h1 h2 h3 h4 h5 h6
  simp[E1,QY,h1,h2,h3,h4,h5,h6]
def J5(b:List UInt8):AG:=if b=[]then [45]else KF b
def w1:AG:=[114,101,112,108,121]
def w2:AG:=[115,101,110,100]
def w3:AG:=[100,101,108,105,118,101,114]
def w4:AG:=[114,101,102,117,115,101]
def w5:AG:=[100,114,111,112]
def w6:AG:=[112,97,115,115]
def evF(e:Al):List AG:=
 if e.Kind=1 then [w1,J5 e.Bytes.l]else if e.Kind=2 then [w2,O3 e.To,KF e.Key.l,J5 e.Bytes.l]else if e.Kind=3 then [w3,KF e.Key.l,J5 e.Bytes.l]else if e.Kind=4 then [w4,J5 e.Bytes.l]
 else if e.Kind=5 then [w5,J4 e.Why.toNat]else [w6,O3 e.To,J5 e.Bytes.l]
def XY(e:Al):AG:=Ds [32] (evF e)
theorem UU{b:List UInt8}(h:b.length≤9000):(J5 b).length≤18000:=by
 unfold J5
 split
 ·simp
 ·rw[QP];omega
theorem R4(e:Al)(h:e.Bytes.l.length≤9000):FO e=some (J5 e.Bytes.l):=by
 unfold FO J5
 by_cases hb:e.Bytes.l=[]
 ·rw[qn (by rw[qp,hb];rfl),qn hb]
 ·rw[qo (by rw[qp];intro h0;exact hb (fb.1 (by omega))),qo hb,Ut _ (by omega)];rfl
theorem iK(b:GS UInt8)(h:b.l.length≤9000):Lv b=some (J5 b.l):=by
 unfold Lv J5
 by_cases hb:b.l=[]
 ·rw[qn (by rw[qp,hb];rfl),qn hb]
 ·rw[qo (by rw[qp];intro h0;exact hb (fb.1 (by omega))),qo hb,YU _ (by omega)];rfl
theorem to_val(e:Al):MB e=some (O3 e.To):=by unfold MB;rw[yT];rfl
theorem vM(e:Al):Lm e=some (KF e.Key.l):=by unfold Lm;rw[keys_hex];rfl
theorem why_val(e:Al)(h:1≤e.Why∧e.Why≤20):No e=some (J4 e.Why.toNat):=by unfold No;rw[Px,Un (by omega) (by omega)];rfl
theorem Zq{a b:AG}(ha:a.length≤100000)(hb:b.length≤100000):(M7 16 (GS.mk [a]) [b]).bind (fun x=>(CN x [32]).bind fun y=>some (y,(0:Int)))=some (Ds [32] [a,b],0):=by
 rw[RY (by simp[Bs]),aa,QL _ _ (by simp[l6]) (by simp) (by simp only[l6,Hv,NG];simp;omega)];rfl
theorem Zr{a b c:AG}(ha:a.length≤100000)(hb:b.length≤100000)(hc:c.length≤100000):(M7 16 (GS.mk [a]) [b]).bind (fun x=>(M7 16 x [c]).bind fun x=>(CN x [32]).bind fun y=>some (y,(0:Int)))=some (Ds [32] [a,b,c],0):=by
 rw[RY (by simp[Bs]),aa,er,RY (by simp[Bs]),aa,QL _ _ (by simp[l6]) (by simp) (by simp only[l6,Hv,NG];simp;omega)];rfl
theorem yP{a b c d:AG}(ha:a.length≤100000)(hb:b.length≤100000)(hc:c.length≤100000)(hd:d.length≤100000):(M7 16 (GS.mk [a]) [b]).bind (fun x=>(M7 16 x [c]).bind fun x=>(M7 16 x [d]).bind fun x=>(CN x [32]).bind fun y=>some (y,(0:Int)))=some (Ds [32] [a,b,c,d],0):=by
 rw[RY (by simp[Bs]),aa,er,RY (by simp[Bs]),aa,RY (by simp[Bs]),aa,QL _ _ (by simp[l6]) (by simp) (by simp only[l6,Hv,NG];simp;omega)];rfl
theorem iZ(K:Ar UInt8 32):(KF K.l).length=64:=by rw[QP,K.len]
theorem Sw(e:Al)(h:QY e=false):Dr e=some ([],1):=by
 unfold Dr
 rw[HH,aa,h,qn (by rfl)]
theorem lP(k:Int)(b:GS UInt8)(t:AI)(y:Ar UInt8 32)(w:Int)(hb:b.l.length≤9000)(h:QY ⟨k,b,t,y,w⟩=true):Dr ⟨k,b,t,y,w⟩=some (XY ⟨k,b,t,y,w⟩,0):=by
 have l1:=UU hb
 have l2:=V9 t
 have l3:=iZ y
 revert h
 revert k
 refine vL ?_ ?_ ?_ ?_ ?_ ?_ ?_
 ·intro h
  have b1:=R4 ⟨1,b,t,y,w⟩ hb
  unfold Dr
  rw[HH,h]
  refine(qv (fun x:Option AG=>x.bind _) b1).trans ?_
  exact Zq (a:=w1) (by decide) (by dsimp only;omega)
 ·intro h
  have b1:=R4 ⟨2,b,t,y,w⟩ hb
  have b2:=to_val ⟨2,b,t,y,w⟩
  have b3:=vM ⟨2,b,t,y,w⟩
  unfold Dr
  rw[HH,h]
  refine(qv (fun x:Option AG=>x.bind _) b2).trans ?_
  refine li ?_ (yP (a:=w2) (b:=O3 t) (c:=KF y.l) (d:=J5 b.l) (by decide) (by omega) (by omega) (by omega))
  rw[aa,b3,b1]
  rfl
 ·intro h
  have b1:=R4 ⟨3,b,t,y,w⟩ hb
  have b3:=vM ⟨3,b,t,y,w⟩
  unfold Dr
  rw[HH,h]
  refine(qv (fun x:Option AG=>x.bind _) b3).trans ?_
  refine li ?_ (Zr (a:=w3) (b:=KF y.l) (c:=J5 b.l) (by decide) (by omega) (by omega))
  rw[aa,b1]
  rfl
 ·intro h
  have b1:=R4 ⟨4,b,t,y,w⟩ hb
  unfold Dr
  rw[HH,h]
  refine(qv (fun x:Option AG=>x.bind _) b1).trans ?_
  exact Zq (a:=w4) (by decide) (by dsimp only;omega)
 ·intro h
  have hw:1≤w∧w≤20:=by
   unfold QY at h
   simp at h
   exact h.1
  have b1:=why_val ⟨5,b,t,y,w⟩ hw
  have l4:=Kg w.toNat
  unfold Dr
  rw[HH,h]
  refine(qv (fun x:Option AG=>x.bind _) b1).trans ?_
  exact Zq (a:=w5) (by decide) (by dsimp only;omega)
 ·intro h
  have b1:=R4 ⟨6,b,t,y,w⟩ hb
  have b2:=to_val ⟨6,b,t,y,w⟩
  unfold Dr
  rw[HH,h]
  refine(qv (fun x:Option AG=>x.bind _) b2).trans ?_
  refine li ?_ (Zr (a:=w6) (b:=O3 t) (c:=J5 b.l) (by decide) (by omega) (by omega))
  rw[aa,b1]
  rfl
 ·intro k h1 h2 h3 h4 h5 h6 h
  unfold QY at h
  simp[h1,h2,h3,h4,h5,h6]at h
theorem SS(e:Al)(hb:e.Bytes.l.length≤9000)(h:QY e=true):Dr e=some (XY e,0):=lP e.Kind e.Bytes e.To e.Key e.Why hb h
theorem MT{γ:Type}{a b:AG}{K:AG→Option γ}(ha:a.length≤1000000)(hb:b.length≤1000000):((if a.length+b.length≤2*Bs then some (a++b)else none).bind K)=K (a++b):=by
 rw[qn (by unfold Bs;omega),aa]
theorem kJ{γ:Type}{a:AG}{K:AG→Option γ}(ha:a.length≤1000000):((if a.length+([32]:AG).length≤2*Bs then some (a++[32])else none).bind K)=K (a++[32]):=MT ha (by decide)
theorem xL(k:Int)(b:GS UInt8)(t:AI)(y:Ar UInt8 32)(w:Int)(hb:b.l.length≤9000)(h:QY ⟨k,b,t,y,w⟩=true):Lw ⟨k,b,t,y,w⟩=some (XY ⟨k,b,t,y,w⟩):=by
 have l1:=UU hb
 have l2:=V9 t
 have l3:=iZ y
 have b1:=iK b hb
 have b2:=r12_text t
 have b3:KC (.mk y.l)=some (KF y.l):=YU (.mk y.l) (by show y.l.length<_;rw[y.len];decide)
 unfold Lw
 rw[xR,aa,b3,aa]
 revert h
 revert k
 refine vL ?_ ?_ ?_ ?_ ?_ ?_ ?_
 ·intro h
  refine(qv (fun x:Option AG=>x.bind _) b1).trans ?_
  refine(MT (a:=[114,101,112,108,121,32]) (by decide) (by omega)).trans ?_
  show some _=some (Ds [32] [w1,J5 b.l])
  simp[Ds,w1]
 ·intro h
  refine(qv (fun x:Option AG=>x.bind _) b2).trans ?_
  refine(MT (a:=[115,101,110,100,32]) (by decide) (by omega)).trans ?_
  refine(kJ (by simp;omega)).trans ?_
  refine(MT (by simp;omega) (by omega)).trans ?_
  refine(kJ (by simp;omega)).trans ?_
  refine(qv (fun x:Option AG=>x.bind _) b1).trans ?_
  refine(MT (by simp;omega) (by omega)).trans ?_
  show some _=some (Ds [32] [w2,O3 t,KF y.l,J5 b.l])
  simp[Ds,w2]
 ·intro h
  refine(MT (a:=[100,101,108,105,118,101,114,32]) (by decide) (by omega)).trans ?_
  refine(kJ (by simp;omega)).trans ?_
  refine(qv (fun x:Option AG=>x.bind _) b1).trans ?_
  refine(MT (by simp;omega) (by omega)).trans ?_
  show some _=some (Ds [32] [w3,KF y.l,J5 b.l])
  simp[Ds,w3]
 ·intro h
  refine(qv (fun x:Option AG=>x.bind _) b1).trans ?_
  refine(MT (a:=[114,101,102,117,115,101,32]) (by decide) (by omega)).trans ?_
  show some _=some (Ds [32] [w4,J5 b.l])
  simp[Ds,w4]
 ·intro h
  have hw:1≤w∧w≤20:=by
   unfold QY at h
   simp at h
   exact h.1
  have b4:JB (Cw w)=some (J4 w.toNat):=by rw[iP,Un (by omega) (by omega)]
  have l4:=Kg w.toNat
  refine(qv (fun x:Option AG=>x.bind _) b4).trans ?_
  refine(MT (a:=[100,114,111,112,32]) (by decide) (by omega)).trans ?_
  show some _=some (Ds [32] [w5,J4 w.toNat])
  simp[Ds,w5]
 ·intro h
  refine(qv (fun x:Option AG=>x.bind _) b2).trans ?_
  refine(MT (a:=[112,97,115,115,32]) (by decide) (by omega)).trans ?_
  refine(kJ (by simp;omega)).trans ?_
  refine(qv (fun x:Option AG=>x.bind _) b1).trans ?_
  refine(MT (by simp;omega) (by omega)).trans ?_
  show some _=some (Ds [32] [w6,O3 t,J5 b.l])
  simp[Ds,w6]
 ·intro k h1 h2 h3 h4 h5 h6 h
  unfold QY at h
  simp[h1,h2,h3,h4,h5,h6]at h
theorem mI(e:Al)(hb:e.Bytes.l.length≤9000)(h:QY e=true):Lw e=some (XY e):=xL e.Kind e.Bytes e.To e.Key e.Why hb h
end
section
theorem M3(k:Nat){a:AG}(h: ∀i,i<k→(decide (i<6))=true){F:Int→Option (Int⊕(Unit⊕Int))}
  (h1: ∀i,i<k→F ((1+i:Nat):Int)=some (.inl ((1+(i+1):Nat):Int))) (h2:F ((1+k:Nat):Int)=some (.inr (.inr ((1+k:Nat):Int)))):
  (iter F 1).bind (a8 (fun _:Unit=>some 0) some)=some ((1+k:Nat):Int):=by
 have:=yI (s:=(1:Int)) k (fun i=>((1+i:Nat):Int)) (r:= .inr ((1+k:Nat):Int)) rfl h1 h2
 rw[this];rfl
theorem kind1:ER w1=some 1:=M3 0 (a:=w1) (fun i h=>absurd h (by omega)) (fun i h=>absurd h (by omega)) rfl
theorem kind2:ER w2=some 2:=M3 1 (a:=w2) (fun i h=>by rw[qp];omega) (fun i h=>match i,h with|0,_=>rfl) rfl
theorem kind3:ER w3=some 3:=M3 2 (a:=w3) (fun i h=>by rw[qp];omega) (fun i h=>match i,h with|0,_=>rfl|1,_=>rfl) rfl
theorem kind4:ER w4=some 4:=M3 3 (a:=w4) (fun i h=>by rw[qp];omega) (fun i h=>match i,h with|0,_=>rfl|1,_=>rfl|2,_=>rfl) rfl
theorem kind5:ER w5=some 5:=M3 4 (a:=w5) (fun i h=>by rw[qp];omega) (fun i h=>match i,h with|0,_=>rfl|1,_=>rfl|2,_=>rfl|3,_=>rfl) rfl
theorem kind6:ER w6=some 6:=M3 5 (a:=w6) (fun i h=>by rw[qp];omega) (fun i h=>match i,h with|0,_=>rfl|1,_=>rfl|2,_=>rfl|3,_=>rfl|4,_=>rfl) rfl
def Ok:Al:=⟨0, .nil,C8,zK,0⟩
theorem HK(s:AG)(hl:s.length<1073741824){F:List AG}(h:AK 32 s=F){w:AG}{k:Int}(h0:F[0]? =some w)(hk:ER w=some k){γ:Type}{K:GS AG→Int→Option γ}:
  ((Dj ([32]:AG) 0).bind fun x2=>(Jt s x2).bind fun x3=>(Dj x3.l 0).bind fun x4=>(ER x4).bind fun x6=>K x3 x6)=K (.mk F) k:=by
 have hi:Dj ([32]:AG) 0=some 32:=rfl
 rw[hi,aa,eG s 32 hl,aa,h]
 have h0':Dj (GS.mk F).l 0=some w:=by
  show F[(0:Int).toNat]? =some w
  exact h0
 rw[h0',aa,hk,aa]
theorem Hu:Gw ()=some true:=by
 have h:=SS ⟨5, .nil,C8,zK,7⟩ (by decide) (by decide)
 have ht:XY ⟨5, .nil,C8,zK,7⟩=[100,114,111,112,32,55]:=by decide
 unfold Gw
 refine(qv (fun x:Option (AG×Int)=>(x.bind _)) h).trans ?_
 rw[ht];rfl
end
section
theorem yQ(n:Nat)(p:Nat→Bool){β:Type}(g:Nat→β){F:Int→Option (Int⊕(Unit⊕β))}
  (h1: ∀i,i<n→F (i:Int)=if p i=true then some (.inr (.inr (g i)))else some (.inl ((i+1:Nat):Int))) (h2:F (n:Int)=some (.inr (.inl ()))):
  iter F 0=some (match(ik n).find? p with|some i=> .inr (g i)|none=> .inl ()):=by
 have key: ∀k i,n=i+k→iter F (i:Int)=some (match(fh i k).find? p with|some i=> .inr (g i)|none=> .inl ()):=by
  intro k
  induction k with
  |zero=>
   intro i hk
   rw[Bm (b:= .inl ()) (by rw[←show n=i by omega];exact h2)]
   rfl
  |succ k ih=>
   intro i hk
   rw[kg,List.find?_cons]
   cases hp:p i with
   |true=>rw[Bm (b:= .inr (g i)) (by rw[h1 i (by omega),qn hp])]
   |false=>rw[BN (s':=((i+1:Nat):Int)) (by rw[h1 i (by omega),qo (by rw[hp];decide)]),ih (i+1) (by omega)]
 have:=key n 0 (by omega)
 rw[lh]
 exact this
def digB(c:UInt8)(a:Bool)(i:Nat):Bool:=decide (((hd i).toNat:Int)=(c.toNat:Int))||(a&&(decide ((9:Int)<(i:Int))&&decide (((hd i).toNat:Int)=((HL ((c.toNat:Int)+((32:UInt8).toNat:Int))).toNat:Int))))
theorem zE: ∀k:Fin 256,(ik 16).find? (digB (bc k.1) false)=Jm (bc k.1):=by decide+kernel
theorem zD: ∀k:Fin 256,(ik 16).find? (digB (bc k.1) true)=Jm (V3 (bc k.1)):=by decide+kernel
def vI:Option Nat→Int
 |some v=>(v:Int)
 |none=> -1
theorem RG(c:UInt8)(a:Bool):KB c a=some (vI (if a=true then Jm (V3 c)else Jm c)):=by
 have hf:(ik 16).find? (digB c a)=if a=true then Jm (V3 c)else Jm c:=by
  have e:bc c.toNat=c:=by simp
  cases a with
  |true=>have:=zD ⟨c.toNat,c.toNat_lt⟩;dsimp only at this;rw[e]at this;rw[this];rfl
  |false=>have:=zE ⟨c.toNat,c.toNat_lt⟩;dsimp only at this;rw[e]at this;rw[this];rfl
 unfold KB
 have hl:=yQ 16 (digB c a) (fun i=>(i:Int)) (F:=fun(s1:Int)=>
  if(decide (s1<16))=true then
  (Hs s1).bind fun x4=>
  (Dj x4 0).bind fun x5=>
  (HD (decide ((x5.toNat:Int)=(c.toNat:Int))) ((Bw a (some (decide (9<s1)))).bind fun x8=>
  (Bw x8 ((Hs s1).bind fun x9=>
  (Dj x9 0).bind fun x10=>
  let x11:=HL ((c.toNat:Int)+((32:UInt8).toNat:Int))
  some (decide ((x10.toNat:Int)=(x11.toNat:Int))))).bind fun x13=>
  some x13)).bind fun x14=>
  if x14=true then
  (some s1).map fun r=> .inr (.inr r)
  else
  some (.inl (ql qm (s1+1)))
  else
  some (.inr (.inl ()))) (fun i hi=>by
   have d:=I6 ⟨i,hi⟩
   dsimp only at d
   have hx:Dj [hd i] 0=some (hd i):=rfl
   dsimp only
   rw[qn (by rw[qp];omega),d,aa,hx,aa]
   have hw:ql qm ((i:Int)+1)=((i+1:Nat):Int):=by rw[show(i:Int)+1=((i+1:Nat):Int) by omega,Bc (by omega)]
   simp only[aa,hx,hw]
   unfold digB
   cases decide (((hd i).toNat:Int)=(c.toNat:Int))<;>cases a<;>cases decide ((9:Int)<(i:Int))<;>simp[Bw,HD]<;>split<;>simp_all) (by rfl)
 refine(qv (fun x:Option (Unit⊕Int)=>x.bind _) hl).trans ?_
 rw[hf]
 cases (if a=true then Jm (V3 c)else Jm c)<;>rfl
theorem hexI{x y:Nat}(hx:x<16)(hy:y<16):HL (ql qm (ql qm (16*(x:Int))+(y:Int)))=bc (16*x+y):=by
 rw[show(16:Int)*(x:Int)=((16*x:Nat):Int) by omega,Bc (by omega),show((16*x:Nat):Int)+(y:Int)=((16*x+y:Nat):Int) by omega,Bc (by omega)]
 unfold HL
 rw[show(((16*x+y:Nat):Int)%256).toNat=16*x+y by omega]
theorem YV(s:AG)(hl:s.length<1073741824):MJ s=some (nN s):=by
 unfold MJ
 refine(qv (fun x:Option Int=>x.bind _) (tm2N s.length)).trans ?_
 rw[aa]
 by_cases he:s.length%2=0
 ·rw[qo (by rw[he];decide)]
  refine nM s hl he ?_ ?_
  ·intro k g a b hk ha hb
   dsimp only
   rw[qn (by rw[qp];omega),B5,ha,aa,RG,aa,show((2*k:Nat):Int)+1=((2*k+1:Nat):Int) by omega,Bc (by omega),B5,hb,aa,RG,aa]
   simp only[au,qu]
   cases h1:Jm a with
   |none=>
    have e:decide (vI none<0)=true:=rfl
    rw[e];rfl
   |some x=>
    have e:decide (vI (some x)<0)=false:=qr (by simp[vI])
    rw[e]
    cases h2:Jm b with
    |none=>
     have e:decide (vI none<0)=true:=rfl
     rw[e];rfl
    |some y=>
     have e:decide (vI (some y)<0)=false:=qr (by simp[vI])
     rw[e]
     have hx:=Uv h1
     have hy:=Uv h2
     have q:HL (ql qm (ql qm (16*vI (some x))+vI (some y)))=bc (16*x+y):=hexI hx hy
     simp only[HD,aa,au,qu]
     rw[q,show((2*k:Nat):Int)+2=((2*k+2:Nat):Int) by omega,Bc (by omega)]
     cases M7 1 g [bc (16*x+y)]<;>rfl
  ·intro g
   dsimp only
   rw[qo (by rw[qp];omega)]
 ·rw[qn (by rw[show s.length%2=1 by omega];decide)]
  unfold nN
  rw[Zx (by omega)]
theorem arr_copy{n:Nat}(g:List UInt8)(hg:g.length=n)(hn:n<1000000)(z:Ar UInt8 n){F:Int×Ar UInt8 n→Option ((Int×Ar UInt8 n)⊕(Ar UInt8 n⊕(Ar UInt8 n×Int)))}
  (h1: ∀(i:Nat) (A:Ar UInt8 n) (x:UInt8),i<n→g[i]? =some x→F ((i:Int),A)=some (.inl (((i+1:Nat):Int),A.set i x))) (h2: ∀A,F ((n:Int),A)=some (.inr (.inl A))):
  iter F (0,z)=some (.inl ⟨g,hg⟩):=by
 have key: ∀k i (A:Ar UInt8 n),i+k=n→A.l.take i=g.take i→iter F ((i:Int),A)=some (.inl ⟨g,hg⟩):=by
  intro k
  induction k with
  |zero=>
   intro i A hi ht
   obtain rfl:i=n:=by omega
   rw[Bm (h2 A)]
   congr 2
   apply pi
   rw[av (by rw[A.len];omega),av (by omega)]at ht
   exact ht
  |succ k ih=>
   intro i A hi ht
   have hlt:i<g.length:=by omega
   rw[BN (h1 i A g[i] (by omega) (ad hlt))]
   refine ih (i+1) _ (by omega) ?_
   show(A.l.set i g[i]).take (i+1)=_
   rw[RA (by rw[A.len];omega) ht,bd hlt]
 exact key n 0 z (by omega) (by simp)
theorem r07_of(g:GS UInt8):iO g=some (if g.l.length<32 then(zK,3)else if 32<g.l.length then(zK,4)else(uC g.l,0)):=by
 unfold iO
 by_cases h1:g.l.length<32
 ·rw[qn (by rw[qp];omega),qn h1]
 ·rw[qo (by rw[qp];omega),qo h1]
  by_cases h2:32<g.l.length
  ·rw[qn (by rw[qp];omega),qn h2]
  ·rw[qo (by rw[qp];omega),qo h2]
   have hl:g.l.length=32:=by omega
   refine(qv (fun x:Option (Ar UInt8 32⊕(Ar UInt8 32×Int))=>x.bind _) (arr_copy g.l hl (by decide) _ (fun i A x hi hx=> ?_) (fun A=> ?_))).trans ?_
   ·dsimp only
    rw[qn (by rw[qp];omega),B5,hx,aa,BV hi,aa,qn hi,aa,show(i:Int)+1=((i+1:Nat):Int) by omega,Bc (by omega)]
   ·rfl
   ·unfold uC
    rw[dif_pos hl];rfl
theorem iN(s:AG)(hl:s.length<1073741824):JA s=some (O0 s):=by
 unfold JA O0
 rw[YV s hl,aa]
 unfold nN
 cases h:Qn s with
 |none=>rfl
 |some l=>
  have e:(!decide ((0:Int)=0))=false:=rfl
  dsimp only
  rw[qo (by rw[e];decide),r07_of,aa,L1]
theorem S6(s:AG)(hl:s.length<1073741824):I7 s=some (vI (YS s)):=by
 unfold I7 YS
 by_cases h1:s.length<1
 ·rw[show decide ((s.length:Int)<1)=true from qq (by omega),qo (by omega)];rfl
 ·rw[show decide ((s.length:Int)<1)=false from qr (by omega)]
  by_cases h4:4<s.length
  ·rw[show decide ((4:Int)<(s.length:Int))=true from qq (by omega),qo (by omega)];rfl
  ·rw[show decide ((4:Int)<(s.length:Int))=false from qr (by omega),qn (by omega)]
   have key: ∀k i n:Nat,s.length=i+k→n<16^i→iter (fun(s6:(Int×Int))=>
     if(decide (s6.2<(s.length:Int)))=true then
     (Dj s s6.2).bind fun x10=>
     (KB x10 true).bind fun x11=>
     if(decide (x11<0))=true then
     (some (-1)).map fun r=> .inr (.inr r)
     else
     let x14:=ql qm (ql qm (16*s6.1)+x11)
     some (.inl (x14,ql qm (s6.2+1)))
     else
     some (.inr (.inl s6.1))) ((n:Int),(i:Int))=some (match Yi n (s.drop i)with|some m=>(.inl (m:Int):Int⊕Int)|none=> .inr (-1)):=by
    intro k
    induction k with
    |zero=>
     intro i n hk hn
     rw[Bm (b:= .inl (n:Int)) (by rw[qo (by rw[qp];dsimp only;omega)]),ce (by omega)]
     rfl
    |succ k ih=>
     intro i n hk hn
     have hi:i<s.length:=by omega
     have hn4:n<4096:=en hn (by
      have:i≤3:=by omega
      calc 16^i≤16^3:=kb (by decide) this
       _=4096:=by decide)
     rw[dK hi]
     cases hv:Jm (V3 s[i])with
     |none=>
      rw[Bm (b:= .inr (-1))]
      ·rfl
      ·dsimp only
       rw[qn (by rw[qp];omega),B5,ad hi,aa,RG,qn rfl,hv,aa,qn (by decide)]
       rfl
     |some v=>
      have hv16:=Uw hv
      rw[BN (s':=(((16*n+v:Nat):Int),((i+1:Nat):Int))),ih (i+1) (16*n+v) (by omega) (by rw[gm];omega)]
      ·rfl
      ·dsimp only
       rw[qn (by rw[qp];omega),B5,ad hi,aa,RG,qn rfl,hv,aa,qo (by rw[qp];show¬((v:Int)<0);omega)]
       show some (Sum.inl (ql qm (ql qm (16*(n:Int))+(v:Int)),ql qm ((i:Int)+1)))=_
       rw[show(16:Int)*(n:Int)=((16*n:Nat):Int) by omega,Bc (by omega),show((16*n:Nat):Int)+(v:Int)=((16*n+v:Nat):Int) by omega,Bc (by omega),show(i:Int)+1=((i+1:Nat):Int) by omega,Bc (by omega)]
   refine(qv (fun x:Option (Int⊕Int)=>x.bind _) (key s.length 0 0 (by omega) (by decide))).trans ?_
   rw[db]
   cases Yi 0 s<;>rfl
theorem rB(s:AG)(hl:s.length<4611686018427387904): ∃k:Nat,OY s=some (k:Int)∧k≤s.length∧(k<s.length↔s.all NJ=false):=by
 unfold OY
 obtain⟨r,e,n,rfl,h1,h2,h3⟩: ∃r:Int,iter (fun(s1:Int)=>
   (Bw (decide (s1<(s.length:Int))) ((Dj s s1).bind fun x5=>
   let x6:=decide (((48:UInt8).toNat:Int)≤(x5.toNat:Int))
   some x6)).bind fun x7=>
   (Bw x7 ((Dj s s1).bind fun x8=>
   let x9:=decide ((x8.toNat:Int)≤((57:UInt8).toNat:Int))
   some x9)).bind fun x10=>
   if x10=true then
   some (.inl (ql qm (s1+1)))
   else
   some (.inr (.inl s1))) (0:Int)=some (Sum.inl r:Int⊕Int)∧ ∃n:Nat,r=n∧n≤s.length∧(s.take n).all NJ=true∧(n<s.length→ ∃c,s[n]? =some c∧NJ c=false):=by
  have key: ∀k i:Nat,s.length=i+k→(s.take i).all NJ=true→ ∃n:Nat,iter (fun(s1:Int)=>
   (Bw (decide (s1<(s.length:Int))) ((Dj s s1).bind fun x5=>
   let x6:=decide (((48:UInt8).toNat:Int)≤(x5.toNat:Int))
   some x6)).bind fun x7=>
   (Bw x7 ((Dj s s1).bind fun x8=>
   let x9:=decide ((x8.toNat:Int)≤((57:UInt8).toNat:Int))
   some x9)).bind fun x10=>
   if x10=true then
   some (.inl (ql qm (s1+1)))
   else
   some (.inr (.inl s1))) (i:Int)=some (Sum.inl (n:Int):Int⊕Int)∧n≤s.length∧(s.take n).all NJ=true∧(n<s.length→ ∃c,s[n]? =some c∧NJ c=false):=by
   intro k
   induction k with
   |zero=>
    intro i hk ha
    refine⟨i,Bm (b:=(Sum.inl (i:Int):Int⊕Int)) ?_,by omega,ha,fun h=>by omega⟩
    rw[qr (by omega: ¬((i:Int)<(s.length:Int)))];rfl
   |succ k ih=>
    intro i hk ha
    have hi:i<s.length:=by omega
    have hx:Dj s (i:Int)=some s[i]:=by rw[B5,ad hi]
    have e:NJ s[i]=(decide (((48:UInt8).toNat:Int)≤(s[i].toNat:Int))&&decide ((s[i].toNat:Int)≤((57:UInt8).toNat:Int))):=by
     unfold NJ
     rw[←Bool.decide_and]
     apply decide_eq_decide.2
     show 48≤s[i].toNat∧s[i].toNat≤57↔((48:Nat):Int)≤(s[i].toNat:Int)∧(s[i].toNat:Int)≤((57:Nat):Int)
     omega
    cases hd:NJ s[i]with
    |true=>
     rw[hd]at e
     have e':=e.symm
     rw[af]at e'
     obtain⟨n,h1,h2⟩:=ih (i+1) (by omega) (by rw[SN hi,ha,hd];rfl)
     refine⟨n,?_,h2⟩
     rw[BN (s':=((i+1:Nat):Int)),h1]
     rw[qq (by omega:((i:Int)<(s.length:Int))),hx]
     simp only[aa,Bw,qt,e'.1,e'.2]
     rw[show(i:Int)+1=((i+1:Nat):Int) by omega,Bc (by omega)]
    |false=>
     rw[hd]at e
     refine⟨i,Bm (b:=(Sum.inl (i:Int):Int⊕Int)) ?_,by omega,ha,fun _=>⟨s[i],ad hi,hd⟩⟩
     rw[qq (by omega:((i:Int)<(s.length:Int))),hx]
     simp only[aa,Bw,qt]
     cases h1:decide (((48:UInt8).toNat:Int)≤(s[i].toNat:Int))<;>cases h2:decide ((s[i].toNat:Int)≤((57:UInt8).toNat:Int))<;>rw[h1,h2]at e<;>first|rfl|cases e
  obtain⟨n,h1,h2,h3,h4⟩:=key s.length 0 (by omega) (by simp)
  exact⟨(n:Int),h1,n,rfl,h2,h3,h4⟩
 refine⟨n,?_,h1,?_⟩
 ·refine(qv (fun x:Option (Int⊕Int)=>x.bind _) e).trans ?_;rfl
 ·constructor
  ·intro h
   obtain⟨c,hc,hd⟩:=h3 h
   rw[ad h,ae]at hc
   cases ha:s.all NJ with
   |false=>rfl
   |true=>
    have:=cd.1 ha s[n] (kl h)
    rw[hc,hd]at this;cases this
  ·intro h
   rcases dq n s.length with hlt|hge
   ·exact hlt
   ·rw[av hge,h]at h2;cases h2
theorem mT{n:Nat}(h:n<18446744073709551616):(ei n).toNat=n:=by rw[io];omega
theorem isD_val{c:UInt8}(h:NJ c=true):48≤c.toNat∧c.toNat≤57:=by unfold NJ at h;exact of_decide_eq_true h
noncomputable def uV(a0:AG)(a1:UInt64)(s13:UInt64×Int):Option ((UInt64×Int)⊕(UInt64⊕(UInt64×Int))):=
 if(decide (s13.2<(a0.length:Int)))=true then
 (Dj a0 s13.2).bind fun x17=>
 let x19:=Cw (((Cw (x17.toNat:Int)).toNat:Int)-((48:UInt64).toNat:Int))
 (if((10:UInt64).toNat:Int)=0 then none else some (Cw (gc (a1.toNat:Int) ((10:UInt64).toNat:Int)))).bind fun x20=>
 (HD (decide ((x20.toNat:Int)<(s13.1.toNat:Int))) (let x22:=Cw (((10:UInt64).toNat:Int)*(s13.1.toNat:Int))
 let x23:=if(a1.toNat:Int)<(x19.toNat:Int)then a1 else x19
 let x25:=decide (((Cw ((a1.toNat:Int)-(x23.toNat:Int))).toNat:Int)<(x22.toNat:Int))
 some x25)).bind fun x26=>
 (HD x26 (some (decide ((a1.toNat:Int)<(x19.toNat:Int))))).bind fun x28=>
 if x28=true then
 (some ((0:UInt64),6)).map fun r=> .inr (.inr r)
 else
 let x29:=Cw (((10:UInt64).toNat:Int)*(s13.1.toNat:Int))
 some (.inl (Cw ((x29.toNat:Int)+(x19.toNat:Int)),ql qm (s13.2+1)))
 else
 some (.inr (.inl s13.1))
theorem wW(s:AG)(m:UInt64){i n:Nat}(hi:i<s.length)(hl:s.length<4611686018427387904)(hn:n≤m.toNat)(hd:NJ s[i]=true):
  uV s m (ei n,(i:Int))=if m.toNat<10*n+(s[i].toNat-48)then some (.inr (.inr (0,6)))else some (.inl (ei (10*n+(s[i].toNat-48)),((i+1:Nat):Int))):=by
 have hm:=m.toNat_lt
 obtain⟨d1,d2⟩:=isD_val hd
 have eN:(ei n).toNat=n:=mT (by omega)
 have e48:((48:UInt64).toNat:Int)=((48:Nat):Int):=rfl
 have e10:((10:UInt64).toNat:Int)=((10:Nat):Int):=rfl
 have ed:(Cw (((Cw (s[i].toNat:Int)).toNat:Int)-((48:Nat):Int))).toNat=s[i].toNat-48:=by
  rw[Gr (by omega),show(s[i].toNat:Int)-((48:Nat):Int)=((s[i].toNat-48:Nat):Int) by omega,Gr (by omega)]
 have eq:(Cw (gc (m.toNat:Int) ((10:Nat):Int))).toNat=m.toNat/10:=by
  rw[←iw,Gr (by omega)]
 unfold uV
 dsimp only
 rw[qn (by rw[qp];omega),B5,ad hi,aa,e10,e48,qo (by decide),aa,eq,eN]
 generalize hD:s[i].toNat-48=d at ed ⊢
 have hw:ql qm ((i:Int)+1)=((i+1:Nat):Int):=by rw[show(i:Int)+1=((i+1:Nat):Int) by omega,Bc (by omega)]
 by_cases h1:m.toNat/10<n
 ·rw[qn (show m.toNat<10*n+d by omega),qq (by omega:(((m.toNat/10:Nat):Int)<(n:Int)))];rfl
 ·have e22:(Cw (((10:Nat):Int)*(n:Int))).toNat=10*n:=by
   rw[show((10:Nat):Int)*(n:Int)=((10*n:Nat):Int) by omega,Gr (by omega)]
  rw[qr (by omega: ¬(((m.toNat/10:Nat):Int)<(n:Int))),e22,ed]
  by_cases h2:m.toNat<d
  ·rw[qn (by omega:(m.toNat:Int)<(d:Int)),qn (by omega),qq (by omega:(m.toNat:Int)<(d:Int))]
   simp only[HD,aa,au,qu]
   split
   ·rfl
   ·rfl
  ·rw[qo (by omega: ¬(m.toNat:Int)<(d:Int)),ed,qr (by omega: ¬(m.toNat:Int)<(d:Int)),show(m.toNat:Int)-(d:Int)=((m.toNat-d:Nat):Int) by omega,Gr (by omega)]
   by_cases h3:m.toNat<10*n+d
   ·rw[qn h3,qq (by omega:((m.toNat-d:Nat):Int)<((10*n:Nat):Int))];rfl
   ·rw[qo h3,qr (by omega: ¬((m.toNat-d:Nat):Int)<((10*n:Nat):Int))]
    simp only[HD,aa,au,qu]
    rw[hw,show((10*n:Nat):Int)+(d:Int)=((10*n+d:Nat):Int) by omega]
    congr 4
    apply UInt64.toNat_inj.1
    rw[Gr (by omega),mT (by omega)]
theorem iY(s:AG)(m:UInt64)(hl:s.length<4611686018427387904)(ha:s.all NJ=true): ∀k i n:Nat,s.length=i+k→n≤m.toNat→
  iter (uV s m) (ei n,(i:Int))=some (if m.toNat<Md n (s.drop i)then .inr (0,6)else .inl (ei (Md n (s.drop i)))):=by
 intro k
 induction k with
 |zero=>
  intro i n hk hn
  rw[ce (by omega),show Md n []=n from rfl,qo (by omega)]
  refine Bm ?_
  unfold uV
  dsimp only
  rw[qo (by rw[qp];omega)]
 |succ k ih=>
  intro i n hk hn
  have hi:i<s.length:=by omega
  have hd:NJ s[i]=true:=cd.1 ha s[i] (kl hi)
  have st:=wW s m hi hl hn hd
  rw[bk hi,UV]
  by_cases h:m.toNat<10*n+(s[i].toNat-48)
  ·rw[qn h]at st
   have hg:=uS (s.drop (i+1)) (10*n+(s[i].toNat-48))
   rw[Bm st,qn (by omega)]
  ·rw[qo h]at st
   rw[BN st,ih (i+1) _ (by omega) (by omega)]
theorem YW(s:AG)(m:UInt64)(hl:s.length<1073741824):Lx s m=some (ZO s m):=by
 obtain⟨k,hk,hkl,hka⟩:=rB s (by omega)
 unfold Lx
 by_cases h0:s=[]
 ·rw[Ki (OC (.inl h0)),show decide ((s.length:Int)=0)=true from qq (by rw[h0];rfl)]
  rfl
 ·have hlen: ¬((s.length:Int)=0):=fun e=>h0 (fb.1 (by omega))
  rw[show decide ((s.length:Int)=0)=false from qr hlen,hk]
  simp only[HD,aa,au,qu]
  by_cases ha:s.all NJ=true
  ·rw[show decide ((k:Int)<(s.length:Int))=false from qr (fun hlt=>by have:=hka.1 (by omega);rw[ha]at this;cases this)]
   simp only[au,qu]
   refine(qv (fun x:Option Bool=>x.bind _) (nI (K:=some) (s:=s))).trans ?_
   rw[aa]
   by_cases hz:1<s.length∧s[0]? =some 48
   ·rw[Ki (OC (.inr (.inr hz))),qn (qq hz)];rfl
   ·have hg: ¬(s=[]∨s.all NJ=false∨(1<s.length∧s[0]? =some 48)):=fun h=>h.elim h0 fun h=>h.elim (fun h=>by rw[ha]at h;cases h) hz
    rw[qo (by rw[qr hz];decide)]
    have hd:=fM (m:=m.toNat) hg
    refine(qv (fun x:Option (UInt64⊕(UInt64×Int))=>x.bind _) (iY s m (by omega) ha s.length 0 0 (by omega) (ib _))).trans ?_
    rw[db]
    by_cases hv:m.toNat<Md 0 s
    ·rw[qn hv]at hd ⊢
     rw[Ki hd];rfl
    ·rw[qo hv]at hd ⊢
     rw[Ki hd];rfl
  ·have ha':s.all NJ=false:=by simpa using ha
   rw[Ki (OC (.inr (.inl ha'))),show decide ((k:Int)<(s.length:Int))=true from qq (by have:=hka.2 ha';omega)]
   rfl
end
section
def E8(w:AG):Int:=if w=w1 then 1 else if w=w2 then 2 else if w=w3 then 3 else if w=w4 then 4 else if w=w5 then 5 else if w=w6 then 6 else 0
theorem yN{F:Int→Option (Int⊕(Unit⊕Int))}(h1:F 1=some (.inl 2))(h2:F 2=some (.inl 3))(h3:F 3=some (.inl 4))(h4:F 4=some (.inl 5))(h5:F 5=some (.inl 6))(h6:F 6=some (.inl 7))(h7:F 7=some (.inr (.inl ()))):
  (iter F 1).bind (a8 (fun _:Unit=>some 0) some)=some 0:=by
 rw[BN h1,BN h2,BN h3,BN h4,BN h5,BN h6,Bm h7];rfl
theorem RM{α:Type}{w x:AG}{a b:Option α}(h:w≠x):(if decide (x=w)=true then a else b)=b:=qo (by rw[qp];exact fun e=>h e.symm)
theorem Ft(w:AG):ER w=some (E8 w):=by
 unfold E8
 by_cases e1:w=w1
 ·rw[qn e1,e1,kind1]
 rw[qo e1]
 by_cases e2:w=w2
 ·rw[qn e2,e2,kind2]
 rw[qo e2]
 by_cases e3:w=w3
 ·rw[qn e3,e3,kind3]
 rw[qo e3]
 by_cases e4:w=w4
 ·rw[qn e4,e4,kind4]
 rw[qo e4]
 by_cases e5:w=w5
 ·rw[qn e5,e5,kind5]
 rw[qo e5]
 by_cases e6:w=w6
 ·rw[qn e6,e6,kind6]
 rw[qo e6]
 unfold ER
 refine yN ?_ ?_ ?_ ?_ ?_ ?_ ?_
 ·exact(RM (x:=w1) e1).trans rfl
 ·exact(RM (x:=w2) e2).trans rfl
 ·exact(RM (x:=w3) e3).trans rfl
 ·exact(RM (x:=w4) e4).trans rfl
 ·exact(RM (x:=w5) e5).trans rfl
 ·exact(RM (x:=w6) e6).trans rfl
 ·rfl
def Ir(s:AG):GS UInt8×Int:=if s=[45]then(.nil,0)else if s=[]then(.nil,5)else nN s
theorem MA(s:AG)(hl:s.length<1073741824):FN s=some (Ir s):=by
 unfold FN Ir
 by_cases h1:s=[45]
 ·rw[qn (qq h1),qn h1]
 ·rw[qo (by rw[qp];exact h1),qo h1]
  by_cases h2:s=[]
  ·rw[qn (qq h2),qn h2]
  ·rw[qo (by rw[qp];exact h2),qo h2,Uu s hl];rfl
def LS(k:Int):Nat:=if k=2 then 4 else if k=3∨k=6 then 3 else 2
def UT(x:Int)(e:Al)(f:Al×Int):Al×Int:=if x=0 then f else(Ok,x)
def Xe(s:AG):Int×Int:=let d:=DV s 20;if d.2=0∧d.1=0 then(0,6)else((d.1:Int),d.2)
def Pa(k:Int)(P:List AG):Al×Int:=
 if k=1∨k=4 then UT (Ir (P.getD 1 [])).2 Ok (⟨k,(Ir (P.getD 1 [])).1,C8,zK,0⟩,0)
 else if k=2 then UT (IE (P.getD 1 [])).2 Ok (UT (O0 (P.getD 2 [])).2 Ok (UT (Ir (P.getD 3 [])).2 Ok (⟨2,(Ir (P.getD 3 [])).1,(IE (P.getD 1 [])).1,(O0 (P.getD 2 [])).1,0⟩,0)))
 else if k=3 then UT (O0 (P.getD 1 [])).2 Ok (UT (Ir (P.getD 2 [])).2 Ok (⟨3,(Ir (P.getD 2 [])).1,C8,(O0 (P.getD 1 [])).1,0⟩,0))
 else if k=5 then UT (Xe (P.getD 1 [])).2 Ok (⟨5, .nil,C8,zK,(Xe (P.getD 1 [])).1⟩,0)
 else UT (IE (P.getD 1 [])).2 Ok (UT (Ir (P.getD 2 [])).2 Ok (⟨6,(Ir (P.getD 2 [])).1,(IE (P.getD 1 [])).1,zK,0⟩,0))
def EA(s:AG):Al×Int:=
 let P:=AK 32 s
 let k:=E8 (P.getD 0 [])
 if k=0 then(Ok,12)else if P.length=LS k then Pa k P else(Ok,5)
theorem RW{F:List AG}{n:Nat}(hF:F.length<1073741825)(h0:1≤F.length):(!decide (ql qm ((F.length:Int)-1)=(n:Int)))= !decide (F.length=n+1):=by
 rw[show(F.length:Int)-1=((F.length-1:Nat):Int) by omega,Bc (by omega)]
 congr 1
 exact decide_eq_decide.2 (by omega)
theorem yA(s:AG)(hl:s.length≤100000)(hk:E8 ((AK 32 s).getD 0 [])=1):Cv s=some (EA s):=by
 obtain⟨p,r,e⟩:=cn (C6 (c:=32) s)
 have hlen:(AK 32 s).length<1073741825:=by
  have h1:=ET (c:=32) s
  have h2:=eu (p:=fun x=>x==(32:UInt8)) (l:=s)
  omega
 have hsub: ∀x∈AK 32 s,x.length<1073741824:=fun x hx=>by have:=Ec hx;omega
 unfold EA
 rw[e]at hk hlen hsub ⊢
 have hk':E8 p=1:=hk
 unfold Cv
 refine(HK s (by omega) e rfl (Ft p)).trans ?_
 dsimp only
 rw[hk,hk']
 rw[qo (show¬((1:Int)=0) by decide)]
 have hc:=RW (n:=1) hlen (by simp)
 by_cases h2:(p::r).length=2
 ·have hb:=hc.trans (show(!decide ((p::r).length=1+1))=false by rw[qq h2];rfl)
  refine(qv (fun b:Bool=>if b=true then some (Ok,(5:Int))else _) hb).trans ?_
  rw[qn (show(p::r).length=LS 1 from h2)]
  match r,h2 with
  |[u],_=>
   refine(qv (fun x:Option (GS UInt8×Int)=>(x.bind _).bind _) (MA u (hsub u (by simp)))).trans ?_
   show(if(!decide ((Ir u).2=0))=true then _ else _)=_
   unfold Pa UT
   by_cases h0:(Ir u).2=0
   ·rw[qo (by rw[qq h0];decide),qn (.inl rfl)]
    exact(qv some (qn h0)).symm
   ·rw[qn (by rw[qr h0];rfl),qn (.inl rfl)]
    exact(qv some (qo h0)).symm
 ·have hb:=hc.trans (show(!decide ((p::r).length=1+1))=true by rw[qr h2];rfl)
  refine(qv (fun b:Bool=>if b=true then some (Ok,(5:Int))else _) hb).trans ?_
  rw[qo (show¬(p::r).length=LS 1 from h2)]
  rfl
theorem rJ(s:AG)(hl:s.length≤100000)(hk:E8 ((AK 32 s).getD 0 [])=4):Cv s=some (EA s):=by
 obtain⟨p,r,e⟩:=cn (C6 (c:=32) s)
 have hlen:(AK 32 s).length<1073741825:=by
  have h1:=ET (c:=32) s
  have h2:=eu (p:=fun x=>x==(32:UInt8)) (l:=s)
  omega
 have hsub: ∀x∈AK 32 s,x.length<1073741824:=fun x hx=>by have:=Ec hx;omega
 unfold EA
 rw[e]at hk hlen hsub ⊢
 have hk':E8 p=4:=hk
 unfold Cv
 refine(HK s (by omega) e rfl (Ft p)).trans ?_
 dsimp only
 rw[hk,hk']
 rw[qo (show¬((4:Int)=0) by decide)]
 have hc:=RW (n:=1) hlen (by simp)
 by_cases h2:(p::r).length=2
 ·have hb:=hc.trans (show(!decide ((p::r).length=1+1))=false by rw[qq h2];rfl)
  refine(qv (fun b:Bool=>if b=true then some (Ok,(5:Int))else _) hb).trans ?_
  rw[qn (show(p::r).length=LS 4 from h2)]
  match r,h2 with
  |[u],_=>
   refine(qv (fun x:Option (GS UInt8×Int)=>(x.bind _).bind _) (MA u (hsub u (by simp)))).trans ?_
   show(if(!decide ((Ir u).2=0))=true then _ else _)=_
   unfold Pa UT
   by_cases h0:(Ir u).2=0
   ·rw[qo (by rw[qq h0];decide),qn (.inr rfl)]
    exact(qv some (qn h0)).symm
   ·rw[qn (by rw[qr h0];rfl),qn (.inr rfl)]
    exact(qv some (qo h0)).symm
 ·have hb:=hc.trans (show(!decide ((p::r).length=1+1))=true by rw[qr h2];rfl)
  refine(qv (fun b:Bool=>if b=true then some (Ok,(5:Int))else _) hb).trans ?_
  rw[qo (show¬(p::r).length=LS 4 from h2)]
  rfl
theorem mN(s:AG)(hl:s.length≤100000)(hk:E8 ((AK 32 s).getD 0 [])=3):Cv s=some (EA s):=by
 obtain⟨p,r,e⟩:=cn (C6 (c:=32) s)
 have hlen:(AK 32 s).length<1073741825:=by
  have h1:=ET (c:=32) s
  have h2:=eu (p:=fun x=>x==(32:UInt8)) (l:=s)
  omega
 have hsub: ∀x∈AK 32 s,x.length<1073741824:=fun x hx=>by have:=Ec hx;omega
 unfold EA
 rw[e]at hk hlen hsub ⊢
 have hk':E8 p=3:=hk
 unfold Cv
 refine(HK s (by omega) e rfl (Ft p)).trans ?_
 dsimp only
 rw[hk,hk']
 rw[qo (show¬((3:Int)=0) by decide)]
 have hc:=RW (n:=2) hlen (by simp)
 by_cases h2:(p::r).length=3
 ·have hb:=hc.trans (show(!decide ((p::r).length=2+1))=false by rw[qq h2];rfl)
  refine(qv (fun b:Bool=>if b=true then some (Ok,(5:Int))else _) hb).trans ?_
  rw[qn (show(p::r).length=LS 3 from h2)]
  match r,h2 with
  |[u,v],_=>
   refine(qv (fun x:Option (Ar UInt8 32×Int)=>(x.bind _).bind _) (SA u (hsub u (by simp)))).trans ?_
   show(if(!decide ((O0 u).2=0))=true then _ else _)=some (UT (O0 u).2 Ok (UT (Ir v).2 Ok (⟨3,(Ir v).1,C8,(O0 u).1,0⟩,0)))
   unfold UT
   by_cases h0:(O0 u).2=0
   ·rw[qo (by rw[qq h0];decide),qn h0]
    refine(qv (fun x:Option (GS UInt8×Int)=>(x.bind _).bind _) (MA v (hsub v (by simp)))).trans ?_
    show(if(!decide ((Ir v).2=0))=true then _ else _)=_
    by_cases h1:(Ir v).2=0
    ·rw[qo (by rw[qq h1];decide)]
     exact(qv some (qn h1)).symm
    ·rw[qn (by rw[qr h1];rfl)]
     exact(qv some (qo h1)).symm
   ·rw[qn (by rw[qr h0];rfl)]
    exact(qv some (qo h0)).symm
 ·have hb:=hc.trans (show(!decide ((p::r).length=2+1))=true by rw[qr h2];rfl)
  refine(qv (fun b:Bool=>if b=true then some (Ok,(5:Int))else _) hb).trans ?_
  rw[qo (show¬(p::r).length=LS 3 from h2)]
  rfl
theorem xZ(s:AG)(hl:s.length≤100000)(hk:E8 ((AK 32 s).getD 0 [])=6):Cv s=some (EA s):=by
 obtain⟨p,r,e⟩:=cn (C6 (c:=32) s)
 have hlen:(AK 32 s).length<1073741825:=by
  have h1:=ET (c:=32) s
  have h2:=eu (p:=fun x=>x==(32:UInt8)) (l:=s)
  omega
 have hsub: ∀x∈AK 32 s,x.length<1073741824:=fun x hx=>by have:=Ec hx;omega
 unfold EA
 rw[e]at hk hlen hsub ⊢
 have hk':E8 p=6:=hk
 unfold Cv
 refine(HK s (by omega) e rfl (Ft p)).trans ?_
 dsimp only
 rw[hk,hk']
 rw[qo (show¬((6:Int)=0) by decide)]
 have hc:=RW (n:=2) hlen (by simp)
 by_cases h2:(p::r).length=3
 ·have hb:=hc.trans (show(!decide ((p::r).length=2+1))=false by rw[qq h2];rfl)
  refine(qv (fun b:Bool=>if b=true then some (Ok,(5:Int))else _) hb).trans ?_
  rw[qn (show(p::r).length=LS 6 from h2)]
  match r,h2 with
  |[u,v],_=>
   refine(qv (fun x:Option (AI×Int)=>(x.bind _).bind _) (QO u (hsub u (by simp)))).trans ?_
   show(if(!decide ((IE u).2=0))=true then _ else _)=some (UT (IE u).2 Ok (UT (Ir v).2 Ok (⟨6,(Ir v).1,(IE u).1,zK,0⟩,0)))
   unfold UT
   by_cases h0:(IE u).2=0
   ·rw[qo (by rw[qq h0];decide),qn h0]
    refine(qv (fun x:Option (GS UInt8×Int)=>(x.bind _).bind _) (MA v (hsub v (by simp)))).trans ?_
    show(if(!decide ((Ir v).2=0))=true then _ else _)=_
    by_cases h1:(Ir v).2=0
    ·rw[qo (by rw[qq h1];decide)]
     exact(qv some (qn h1)).symm
    ·rw[qn (by rw[qr h1];rfl)]
     exact(qv some (qo h1)).symm
   ·rw[qn (by rw[qr h0];rfl)]
    exact(qv some (qo h0)).symm
 ·have hb:=hc.trans (show(!decide ((p::r).length=2+1))=true by rw[qr h2];rfl)
  refine(qv (fun b:Bool=>if b=true then some (Ok,(5:Int))else _) hb).trans ?_
  rw[qo (show¬(p::r).length=LS 6 from h2)]
  rfl
theorem xY(s:AG)(hl:s.length≤100000)(hk:E8 ((AK 32 s).getD 0 [])=2):Cv s=some (EA s):=by
 obtain⟨p,r,e⟩:=cn (C6 (c:=32) s)
 have hlen:(AK 32 s).length<1073741825:=by
  have h1:=ET (c:=32) s
  have h2:=eu (p:=fun x=>x==(32:UInt8)) (l:=s)
  omega
 have hsub: ∀x∈AK 32 s,x.length<1073741824:=fun x hx=>by have:=Ec hx;omega
 unfold EA
 rw[e]at hk hlen hsub ⊢
 have hk':E8 p=2:=hk
 unfold Cv
 refine(HK s (by omega) e rfl (Ft p)).trans ?_
 dsimp only
 rw[hk,hk']
 rw[qo (show¬((2:Int)=0) by decide)]
 have hc:=RW (n:=3) hlen (by simp)
 by_cases h2:(p::r).length=4
 ·have hb:=hc.trans (show(!decide ((p::r).length=3+1))=false by rw[qq h2];rfl)
  refine(qv (fun b:Bool=>if b=true then some (Ok,(5:Int))else _) hb).trans ?_
  rw[qn (show(p::r).length=LS 2 from h2)]
  match r,h2 with
  |[t,u,v],_=>
   refine(qv (fun x:Option (AI×Int)=>(x.bind _).bind _) (QO t (hsub t (by simp)))).trans ?_
   show(if(!decide ((IE t).2=0))=true then _ else _)=some (UT (IE t).2 Ok (UT (O0 u).2 Ok (UT (Ir v).2 Ok (⟨2,(Ir v).1,(IE t).1,(O0 u).1,0⟩,0))))
   unfold UT
   by_cases hh:(IE t).2=0
   ·rw[qo (by rw[qq hh];decide),qn hh]
    refine(qv (fun x:Option (Ar UInt8 32×Int)=>(x.bind _).bind _) (SA u (hsub u (by simp)))).trans ?_
    show(if(!decide ((O0 u).2=0))=true then _ else _)=_
    by_cases h0:(O0 u).2=0
    ·rw[qo (by rw[qq h0];decide),qn h0]
     refine(qv (fun x:Option (GS UInt8×Int)=>(x.bind _).bind _) (MA v (hsub v (by simp)))).trans ?_
     show(if(!decide ((Ir v).2=0))=true then _ else _)=_
     by_cases h1:(Ir v).2=0
     ·rw[qo (by rw[qq h1];decide)]
      exact(qv some (qn h1)).symm
     ·rw[qn (by rw[qr h1];rfl)]
      exact(qv some (qo h1)).symm
    ·rw[qn (by rw[qr h0];rfl)]
     exact(qv some (qo h0)).symm
   ·rw[qn (by rw[qr hh];rfl)]
    exact(qv some (qo hh)).symm
 ·have hb:=hc.trans (show(!decide ((p::r).length=3+1))=true by rw[qr h2];rfl)
  refine(qv (fun b:Bool=>if b=true then some (Ok,(5:Int))else _) hb).trans ?_
  rw[qo (show¬(p::r).length=LS 2 from h2)]
  rfl
theorem rI(s:AG)(hl:s.length≤100000)(hk:E8 ((AK 32 s).getD 0 [])=0):Cv s=some (EA s):=by
 obtain⟨p,r,e⟩:=cn (C6 (c:=32) s)
 unfold EA
 rw[e]at hk ⊢
 have hk':E8 p=0:=hk
 unfold Cv
 refine(HK s (by omega) e rfl (Ft p)).trans ?_
 dsimp only
 rw[hk,hk',qn rfl]
 rfl
theorem wJ(u:AG)(m:Nat):(DV u m).1≤m:=by
 unfold DV
 split
 ·simp
 ·split
  ·simp
  ·dsimp only;omega
theorem why_step(u:AG)(hl:u.length<1073741824):((Hc u (20:UInt64)).bind fun x155=>
  (Bw (decide (x155.2=0)) ((Mz (ql qm (x155.1.toNat:Int))).bind fun x162=>some (!x162))).bind fun x164=>
  if x164=true then some ((6:Int),(⟨5, .nil,C8,zK,ql qm (x155.1.toNat:Int)⟩:Al))else some (x155.2,⟨5, .nil,C8,zK,ql qm (x155.1.toNat:Int)⟩))=some ((Xe u).2,⟨5, .nil,C8,zK,(Xe u).1⟩):=by
 have hle:=wJ u 20
 rw[Py u _ hl,aa]
 unfold ZO Xe
 rw[show(20:UInt64).toNat=20 from rfl]
 dsimp only
 rw[mT (by omega),Bc (by omega),vJ]
 by_cases h0:(DV u 20).2=0
 ·rw[qq h0]
  by_cases h1:(DV u 20).1=0
  ·rw[qn ⟨h0,h1⟩,h1];rfl
  ·rw[qo (fun h=>h1 h.2),qq (by omega:(1:Int)≤((DV u 20).1:Int)),qq (by omega:((DV u 20).1:Int)≤20)];rfl
 ·rw[qr h0,qo (fun h=>h0 h.1)];rfl
theorem rK(s:AG)(hl:s.length≤100000)(hk:E8 ((AK 32 s).getD 0 [])=5):Cv s=some (EA s):=by
 obtain⟨p,r,e⟩:=cn (C6 (c:=32) s)
 have hlen:(AK 32 s).length<1073741825:=by
  have h1:=ET (c:=32) s
  have h2:=eu (p:=fun x=>x==(32:UInt8)) (l:=s)
  omega
 have hsub: ∀x∈AK 32 s,x.length<1073741824:=fun x hx=>by have:=Ec hx;omega
 unfold EA
 rw[e]at hk hlen hsub ⊢
 have hk':E8 p=5:=hk
 unfold Cv
 refine(HK s (by omega) e rfl (Ft p)).trans ?_
 dsimp only
 rw[hk,hk']
 rw[qo (show¬((5:Int)=0) by decide)]
 have hc:=RW (n:=1) hlen (by simp)
 by_cases h2:(p::r).length=2
 ·have hb:=hc.trans (show(!decide ((p::r).length=1+1))=false by rw[qq h2];rfl)
  refine(qv (fun b:Bool=>if b=true then some (Ok,(5:Int))else _) hb).trans ?_
  rw[qn (show(p::r).length=LS 5 from h2)]
  match r,h2 with
  |[u],_=>
   refine(qv (fun x:Option (Int×Al)=>x.bind _) (why_step u (hsub u (by simp)))).trans ?_
   show(if(!decide ((Xe u).2=0))=true then _ else _)=some (UT (Xe u).2 Ok (⟨5, .nil,C8,zK,(Xe u).1⟩,0))
   unfold UT
   by_cases h0:(Xe u).2=0
   ·rw[qo (by rw[qq h0];decide)]
    exact(qv some (qn h0)).symm
   ·rw[qn (by rw[qr h0];rfl)]
    exact(qv some (qo h0)).symm
 ·have hb:=hc.trans (show(!decide ((p::r).length=1+1))=true by rw[qr h2];rfl)
  refine(qv (fun b:Bool=>if b=true then some (Ok,(5:Int))else _) hb).trans ?_
  rw[qo (show¬(p::r).length=LS 5 from h2)]
  rfl
theorem Xg(s:AG)(hl:s.length≤100000):Cv s=some (EA s):=by
 have hk: ∀w,E8 w=1∨E8 w=2∨E8 w=3∨E8 w=4∨E8 w=5∨E8 w=6∨E8 w=0:=fun w=>by
  unfold E8
  repeat' split
  all_goals simp
 rcases hk ((AK 32 s).getD 0 [])with h|h|h|h|h|h|h
 ·exact yA s hl h
 ·exact xY s hl h
 ·exact mN s hl h
 ·exact rJ s hl h
 ·exact rK s hl h
 ·exact xZ s hl h
 ·exact rI s hl h
end
section
end
section
theorem eA(s:AG)(hl:s.length<1073741824):M0 s=some (W1 s):=by
 unfold M0 W1 DG
 rw[Gd s 46 hl,aa]
 by_cases h4:(AK 46 s).length=4
 ·rw[qn h4]
  refine li (qo (by simp[h4])) ?_
  refine(eB (AK 46 s) h4 ?_ ?_).trans ?_
  ·intro i A x hi hx
   have hxl:x.length<1073741824:=by
    have:=Ec (cq hx);omega
   refine li (qn (by rw[qp];dsimp only;omega)) ?_
   dsimp only
   rw[B5,Es,hx,aa,YW x 255 hxl,aa]
   by_cases hd:(DV x 255).2=0
   ·rw[qo (by rw[RT,hd];decide),qn hd,BV hi,aa,qn hi,aa,mR x hd,show(i:Int)+1=((i+1:Nat):Int) by omega,Bc (by omega)]
   ·rw[qn (by rw[RT];simp[hd]),qo hd]
    rfl
  ·intro A
   rfl
  ·by_cases hb:Nn (AK 46 s)=0
   ·rw[qn hb,qn hb]
   ·rw[qo hb,qo hb];rfl
 ·rw[qo h4]
  refine li (qn (by simp only[cg,decide_eq_false_iff_not];intro e;exact h4 (ia e))) rfl
theorem Z0: ∀{s a b:AG},It s=some (a,b)→s=a++58::58::b
 |[],_,_,h=>by simp[It]at h
 |[_],_,_,h=>by simp[It]at h
 |x::y::r,a,b,h=>by
  rw[It]at h
  split at h
  ·rename_i hc
   obtain⟨rfl,rfl⟩:=hc
   cases h;rfl
  ·obtain⟨q,hq,e⟩:=aj.1 h
   cases e
   have:=Z0 hq
   rw[this];rfl
def nV(s:AG):Option Nat:=(It s).map fun p=>p.1.length
theorem gapN_two(a b:UInt8)(r:AG):nV (a::b::r)=if a=58∧b=58 then some 0 else(nV (b::r)).map (· +1):=by
 unfold nV
 rw[It]
 split
 ·rfl
 ·cases It (b::r)<;>rfl
theorem mL(s:AG)(hl:s.length<4611686018427387904):XS s=some (vI (nV s)):=by
 unfold XS
 have key: ∀k i:Nat,s.length=i+k→iter (fun(s1:Int)=>
   let x5:=decide (ql qm (s1+1)<(s.length:Int))
   if x5=true then
   (Dj s s1).bind fun x6=>
   let x7:=decide ((x6.toNat:Int)=((58:UInt8).toNat:Int))
   (Bw x7 ((Dj s (ql qm (s1+1))).bind fun x9=>
   let x10:=decide ((x9.toNat:Int)=((58:UInt8).toNat:Int))
   some x10)).bind fun x11=>
   if x11=true then
   (some s1).map fun r=> .inr (.inr r)
   else
   some (.inl (ql qm (s1+1)))
   else
   some (.inr (.inl ()))) (i:Int)=some (match nV (s.drop i)with|some n=>(Sum.inr ((i+n:Nat):Int):Unit⊕Int)|none=> .inl ()):=by
  intro k
  induction k with
  |zero=>
   intro i hk
   rw[ce (by omega)]
   refine Bm ?_
   dsimp only
   rw[show(i:Int)+1=((i+1:Nat):Int) by omega,Bc (by omega),qo (by rw[qp];omega)]
   rfl
  |succ k ih=>
   intro i hk
   have hi:i<s.length:=by omega
   by_cases h2:i+1<s.length
   ·rw[bk hi,bk h2,gapN_two]
    have ih':=ih (i+1) (by omega)
    rw[bk h2]at ih'
    have c1:decide ((s[i].toNat:Int)=((58:UInt8).toNat:Int))=decide (s[i]=58):=decide_eq_decide.2 ⟨fun e=>ef.1 (ia e),fun e=>by rw[e]⟩
    have c2:decide ((s[i+1].toNat:Int)=((58:UInt8).toNat:Int))=decide (s[i+1]=58):=decide_eq_decide.2 ⟨fun e=>ef.1 (ia e),fun e=>by rw[e]⟩
    by_cases hc:s[i]=58∧s[i+1]=58
    ·rw[qn hc]
     refine Bm ?_
     dsimp only
     rw[show(i:Int)+1=((i+1:Nat):Int) by omega,Bc (by omega),qn (by rw[qp];omega),B5,ad hi,aa,B5,ad h2,aa,c1,c2,qq hc.1,qq hc.2]
     rfl
    ·rw[qo hc,BN (s':=((i+1:Nat):Int)),ih']
     ·cases nV (s[i+1]::s.drop (i+1+1))with
      |none=>rfl
      |some n=>show some (Sum.inr _)=some (Sum.inr _);rw[show i+1+n=i+(n+1) by omega]
     ·dsimp only
      rw[show(i:Int)+1=((i+1:Nat):Int) by omega,Bc (by omega),qn (by rw[qp];omega),B5,ad hi,aa,B5,ad h2,aa,c1,c2]
      by_cases ha:s[i]=58
      ·rw[qq ha,qr (fun hb=>hc ⟨ha,hb⟩)];rfl
      ·rw[qr ha];rfl
   ·rw[bk hi,ce (l:=s) (i:=i+1) (by omega)]
    refine Bm ?_
    dsimp only
    rw[show(i:Int)+1=((i+1:Nat):Int) by omega,Bc (by omega),qo (by rw[qp];omega)]
    rfl
 refine(qv (fun x:Option (Unit⊕Int)=>x.bind _) (key s.length 0 (by omega))).trans ?_
 rw[db]
 cases nV s with
 |none=>rfl
 |some n=>show some _=some _;rw[da];rfl
def cI(l:List Nat):List Int:=l.map fun(n:Nat)=>(Nat.cast n:Int)
theorem KO(l:List Nat):(cI l).length=l.length:=by simp[cI]
theorem kU{l m:List Int}(hm:m≠[])(h:(l.length+m.length)*8≤Bs):M7 8 (O6 l) m=some (O6 (l++m)):=by
 unfold M7
 rw[L1,qn h]
 obtain⟨x,r,rfl⟩:=cn hm
 cases l with
 |nil=>rfl
 |cons y l=>rfl
theorem lL(x y:UInt8):ql qm (ql qm (256*ql qm (x.toNat:Int))+ql qm (y.toNat:Int))=((256*x.toNat+y.toNat:Nat):Int):=by
 have hx:=x.toNat_lt
 have hy:=y.toNat_lt
 rw[Bc (by omega),Bc (by omega),show(256:Int)*(x.toNat:Int)=((256*x.toNat:Nat):Int) by omega,Bc (by omega),show((256*x.toNat:Nat):Int)+(y.toNat:Int)=((256*x.toNat+y.toNat:Nat):Int) by omega,Bc (by omega)]
noncomputable def dQ(P:GS AG)(last:Bool)(s3:Int×(GS Int)):Option ((Int×(GS Int))⊕((GS Int)⊕((GS Int)×Bool))):=
 if(decide (s3.1<(P.l.length:Int)))=true then
 (Dj P.l s3.1).bind fun x7=>
 (I7 x7).bind fun x9=>
 if(decide (0≤x9))=true then
 (M7 8 s3.2 [x9]).bind fun x12=>
 some (.inl (ql qm (s3.1+1),x12))
 else
 (Dj P.l s3.1).bind fun x14=>
 (M0 x14).bind fun x16=>
 (HD (!decide (x16.2=0)) (some (!last))).bind fun x23=>
 (HD x23 (let x26:=decide (s3.1<ql qm ((P.l.length:Int)-1))
 some x26)).bind fun x27=>
 if x27=true then
 (some (.nil,false)).map fun r=> .inr (.inr r)
 else
 (BU 4 0).bind fun x28=>
 (x16.1.l[x28]?).bind fun x29=>
 let x31:=ql qm (256*ql qm (x29.toNat:Int))
 (BU 4 1).bind fun x32=>
 (x16.1.l[x32]?).bind fun x33=>
 let x35:=ql qm (x31+ql qm (x33.toNat:Int))
 (BU 4 2).bind fun x36=>
 (x16.1.l[x36]?).bind fun x37=>
 let x39:=ql qm (256*ql qm (x37.toNat:Int))
 (BU 4 3).bind fun x40=>
 (x16.1.l[x40]?).bind fun x41=>
 let x43:=ql qm (x39+ql qm (x41.toNat:Int))
 (M7 8 s3.2 [x35,x43]).bind fun x45=>
 some (.inl (ql qm (s3.1+1),x45))
 else
 some (.inr (.inl s3.2))
def q0(x:AG)(i:Nat):UInt8:=(DG x).1.getD i 0
theorem idx4{i:Nat}(h:i<4){j:Int}(hj:j=(i:Int)):BU 4 j=some i:=by subst hj;exact BV h
theorem yL(P:List AG)(last:Bool)(hP:P.length<1073741825)(hx: ∀x∈P,x.length<1073741824): ∀(k i:Nat) (pre:List Nat),P.length=i+k→pre.length≤i→
  iter (dQ (.mk P) last) ((i:Int),O6 (cI pre))=some (match DM last (P.drop i)with|some m=> .inl (O6 (cI (pre++m)))|none=> .inr (.nil,false)):=by
 intro k
 induction k with
 |zero=>
  intro i pre hk hp
  rw[ce (by omega)]
  refine(Bm (b:=(Sum.inl (O6 (cI pre)):(GS Int)⊕((GS Int)×Bool))) ?_).trans ?_
  ·unfold dQ
   dsimp only
   rw[qo (by rw[qp,Es];omega)]
  ·show _=some (Sum.inl (O6 (cI (pre++[]))))
   rw[dv]
 |succ k ih=>
  intro i pre hk hp
  have hi:i<P.length:=by omega
  have hxl:=hx P[i] (kl hi)
  have hw:ql qm ((i:Int)+1)=((i+1:Nat):Int):=by rw[show(i:Int)+1=((i+1:Nat):Int) by omega,Bc (by omega)]
  rw[bk hi,DM]
  cases hg:YS P[i]with
  |some n=>
   dsimp only
   rw[BN (s':=(((i+1:Nat):Int),O6 (cI (pre++[n])))),ih (i+1) (pre++[n]) (by omega) (by simp;omega)]
   ·cases DM last (P.drop (i+1))with
    |none=>rfl
    |some m=>simp only[an,dl,er]
   ·unfold dQ
    dsimp only
    rw[qn (by rw[qp,Es];omega),Es,B5,ad hi,aa,S6 _ hxl,hg,aa,qn (by rw[qp];show(0:Int)≤(n:Int);omega)]
    rw[show vI (some n)=(n:Int)from rfl,kU (by simp) (by rw[KO];simp[Bs];omega),aa,hw]
    unfold cI
    rw[de];rfl
  |none=>
   dsimp only
   have hcond:(decide ((i:Int)<ql qm ((P.length:Int)-1)))=decide (i+1<P.length):=by
    rw[show(P.length:Int)-1=((P.length-1:Nat):Int) by omega,Bc (by omega)]
    exact decide_eq_decide.2 (by omega)
   have hdrop:P.drop (i+1)=[]↔ ¬(i+1<P.length):=by
    constructor
    ·intro h;have:=qv f8 h;simp at this;omega
    ·intro h;exact ce (by omega)
   have start:dQ (.mk P) last ((i:Int),O6 (cI pre))=(HD (!decide ((DG P[i]).2=0)) (some (!last))).bind fun x23=>(HD x23 (some (decide (i+1<P.length)))).bind fun x27=>if x27=true then some (.inr (.inr (.nil,false)))else
     some (.inl (((i+1:Nat):Int),O6 (cI (pre++[256*(q0 P[i] 0).toNat+(q0 P[i] 1).toNat,256*(q0 P[i] 2).toNat+(q0 P[i] 3).toNat])))):=by
    unfold dQ
    dsimp only
    rw[qn (by rw[qp,Es];omega),Es,B5,ad hi,aa,S6 _ hxl,hg,aa,qo (by decide),aa,eA _ hxl,aa]
    unfold W1
    dsimp only
    rw[hcond,idx4 (i:=0) (j:=(0:Int)) (by decide) rfl,aa,NF _ 0 (by decide),aa,idx4 (i:=1) (j:=(1:Int)) (by decide) rfl,aa,NF _ 1 (by decide),aa,idx4 (i:=2) (j:=(2:Int)) (by decide) rfl,aa,NF _ 2 (by decide),aa,idx4 (i:=3) (j:=(3:Int)) (by decide) rfl,aa,NF _ 3 (by decide),aa,
     lL,lL,kU (by simp) (by rw[KO];simp[Bs];omega),aa,hw]
    unfold cI
    rw[de]
    rfl
   by_cases hc:P.drop (i+1)=[]∧last=true∧(DG P[i]).2=0
   ·rw[qn hc]
    obtain⟨c1,c2,c3⟩:=hc
    have c1':=hdrop.1 c1
    subst c2
    rw[qq c3,qr c1']at start
    rw[BN start,Bm (b:=Sum.inl (O6 (cI (pre++[256*(q0 P[i] 0).toNat+(q0 P[i] 1).toNat,256*(q0 P[i] 2).toNat+(q0 P[i] 3).toNat]))))]
    ·rfl
    ·unfold dQ
     dsimp only
     rw[qo (by rw[qp,Es];omega)]
   ·rw[qo hc]
    refine Bm (start.trans ?_)
    by_cases c3:(DG P[i]).2=0
    ·rw[qq c3]
     cases last with
     |false=>rfl
     |true=>
      have:i+1<P.length:=by
       rcases dq (i+1) P.length with h|h
       ·exact h
       ·exact absurd ⟨hdrop.2 (by omega),rfl,c3⟩ hc
      rw[qq this];rfl
    ·rw[qr c3];rfl
theorem OW(s:AG)(last:Bool)(hl:s.length<1073741824):Ox s last=some (match JD last s with|some l=>(O6 (cI l),true)|none=>(.nil,false)):=by
 unfold Ox JD
 by_cases h0:s=[]
 ·rw[qn (qq h0),qn h0];rfl
 ·rw[qo (by rw[qp];exact h0),qo h0,Gd s 58 hl,aa]
  have hlen:(AK 58 s).length<1073741825:=by
   have h1:=ET (c:=58) s
   have h2:=eu (p:=fun x=>x==(58:UInt8)) (l:=s)
   omega
  refine(qv (fun x:Option ((GS Int)⊕((GS Int)×Bool))=>x.bind _) (yL (AK 58 s) last hlen (fun x hx=>by have:=Ec hx;omega) (AK 58 s).length 0 [] (by omega) (by simp))).trans ?_
  rw[db]
  cases DM last (AK 58 s)<;>rfl
end
end Go.Proofs.YtobejhpigbllpaaGreatDoor.Am
