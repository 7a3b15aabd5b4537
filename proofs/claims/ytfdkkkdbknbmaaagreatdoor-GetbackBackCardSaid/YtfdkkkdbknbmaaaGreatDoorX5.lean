/-
  What functions compute, and that they do. Printed by mkwalk.py.
-/
import Derived.Test.YtfdkkkdbknbmaaaGreatDoorX4
set_option linter.unusedVariables false
set_option linter.unusedSimpArgs false
namespace Go.Proofs.YtfdkkkdbknbmaaaGreatDoor.Am
noncomputable section
open A0 renaming inl→rn, op→je
open Aa renaming and→gu, cond→ap, frzRow→gt, inl→fw, loop→dm, next→dl, nxt→tt, op→a7, or→jx, regd→gv, ret→a6, skip→av, stop→nl, turn→jj, weak→ji
open Ar renaming ext→pi
open Bf renaming nil→dh, op→jw
open Bool renaming and_eq_true→af, eq_iff_iff→gq, false_eq_true→ah, not_false→ju, not_true→cq, or_eq_true→fu, true_and→kf
open _root_.ByteArray renaming size→lw
open CA renaming arr→l8, u8→nr
open Extern.BytealgCompare renaming cmp→jk
open IT renaming int→bj, u16→jf, u32→ik, u64→d4, u8→ib
open Int renaming fdiv→kw, ofNat_tdiv→m7, ofNat_tmod→oj, tdiv→jt, tmod→j6, toNat_natCast→m6
open IntKind renaming bits→gc, i64→tz, signed→ko, wrap→tx
open List renaming any_eq_true→jp, append_assoc→br, append_inj_right'→pz, append_nil→ei, concat_eq_append→nf, cons_append→cd, drop_append→me, drop_append_of_le_length→ed, drop_eq_getElem_cons→da, drop_eq_nil_of_le→k0, drop_zero→dq, eq_nil_or_concat→ne, exists_of_findSome?_eq_some→gf, ext_getElem?→ew, find?_cons→qe, findIdx?_cons→j5, findSome?_eq_none_iff→gn, getElem?_append_right→bo, getElem?_drop→gj, getElem?_eq_getElem→ab, getElem?_eq_none→dk, getElem?_replicate→ky, getElem?_set→i7, getElem_mem→eu, getElem_take→kd, isPrefixOf→kb, length→jd, length_append→an, length_cons→ba, length_drop→bk, length_nil→bu, length_pos_iff→nx, length_replicate→qi, length_set→ig, length_take→aq, mem_append→cf, mem_cons→bm, mem_cons_of_mem→a8, mem_cons_self→bg, mem_iff_getElem→gm, mem_range'_1→dx, mem_singleton→ct, nil_append→dt, range'→dp, range'_append_1→nu, range_eq_range'→nn, replicate→az, replicate_succ→kj, singleton_append→gb, take_append_drop→c9, take_of_length_le→au, take_succ_eq_append_getElem→bf
open List.cons renaming injEq→gr
open NT renaming u32→sk, u64→tn
open Nat renaming add_zero→i6, div_div_eq_div_mul→k9, div_le_self→lb, le_refl→bc, lt_or_ge→ef, pow_succ→i8, sub_self→jz, succ_mul→ci, zero_add→dc
open Ne renaming symm→iz
open Option renaming bind_some→aa, getD_some→io, isSome_none→rj, map_some→ak
open Option.some renaming injEq→ae
open SimDW renaming op→m5
open Sum renaming elim→bd, elim_inl→dw, elim_inr→pl
open T renaming arr→aw, b→du, int→am, sl→db, u16→dy, u32→n8, u64→bx, u8→bi
open T.Un0 renaming iso→sm, prod→ro
open T.Uni renaming arr→fm, iso→dr, prod→ce
open UInt8 renaming lt_iff_toNat_lt→ql, ofNat→bb, toNat_inj→ii, toNat_ofNat'→gi
open Utf8 renaming decode→il, encode→jc, runeError→m8
section
set_option maxRecDepth 100000
set_option maxHeartbeats 4000000
def FO(a0:Bool):Option Int:=if a0=true then some 1 else some 0
def Lw(a:BG [du]):BE tb Fu [du] [tv] a:=Ad<|Ah (Ay AS)<|Ag<|Ad<|Ab r_<|Ac<|ap Af (Ad<|Ah (Ay AS)<|Ac<|a6 (.one (A7 r_))) (av<|Ag<|Ah (Ay AS)<|Ac<|a6 (.one (A7 r_)))
theorem Mk:Spec tb Dz [du] [tv] (fun a=>FO a):=
 Spec.of MD r_ r_ r_ Lw
def DX(a0:UInt64):Option Int:=(H9 a0).bind fun x1=>(DY x1).bind fun x2=>(DN Aa9.l x2).bind fun x3=>(FO (decide ((x3.toNat:Int)≤(a0.toNat:Int)))).bind fun x6=>some (tx tz (x2+x6))
def Lu(a:BG [bx]):BE tb Fs [bx] [tv] a:=Ad<|Ah (Ay AS)<|Ag<|Ab r_<|a7 (AI Vr (.one Af)) fun x1=>a7 (AI Mj (.one Af)) fun x2=>Ab r_<|Ag<|Ab r_<|Ab r_<|Ab r_<|a7 (h_iaa r_ r_ (o_g (t:=(aw 20 bx)) (x:=Aa9) r_ gm_4 gr_4) Af) fun x3=>An (IY r_ r_ Af) fun x4=>Ai (DZ (I:=d4) r_ Af Af) fun x5=>a7 (AI Mk (.one Af)) fun x6=>Ai (B8 (I:=tw) Af Af) fun x7=>Ab r_<|Ac<|a6 (.one (A7 r_))
theorem Mi:Spec tb Dx [bx] [tv] (fun a=>DX a):=
 Spec.of MB r_ r_ r_ Lu
def Cz(a0:UInt64)(a1:Int):Option AP:=if(decide (a1=10))=true then let x2:=decide ((a0.toNat:Int)<((100:UInt64).toNat:Int));if x2=true then (Hq (tx tz (a0.toNat:Int))).bind fun x4=>some x4 else (DX a0).bind fun x6=>((SV 24 none (some x6)).map fun p=>p.2).bind fun x7=>((iter (fun(s10:(UInt64×Int×(Ar UInt8 24)))=>if(decide (8≤s10.2.1))=true then (if((100000000:UInt64).toNat:Int)=0 then none else some (Cw (j6 (s10.1.toNat:Int) ((100000000:UInt64).toNat:Int)))).bind fun x13=>(if((100000000:UInt64).toNat:Int)=0 then none else some (Cw (jt (s10.1.toNat:Int) ((100000000:UInt64).toNat:Int)))).bind fun x15=>(if((10000:UInt32).toNat:Int)=0 then none else some (CJ (jt ((CJ (x13.toNat:Int)).toNat:Int) ((10000:UInt32).toNat:Int)))).bind fun x16=>(if((10000:UInt32).toNat:Int)=0 then none else some (CJ (j6 ((CJ (x13.toNat:Int)).toNat:Int) ((10000:UInt32).toNat:Int)))).bind fun x17=>(if((100:UInt32).toNat:Int)=0 then none else some (CJ (jt (x17.toNat:Int) ((100:UInt32).toNat:Int)))).bind fun x18=>let x19:=CJ ((x18.toNat:Int)*((2:UInt32).toNat:Int));(if((100:UInt32).toNat:Int)=0 then none else some (CJ (j6 (x17.toNat:Int) ((100:UInt32).toNat:Int)))).bind fun x20=>let x21:=CJ ((x20.toNat:Int)*((2:UInt32).toNat:Int));(if((100:UInt32).toNat:Int)=0 then none else some (CJ (jt (x16.toNat:Int) ((100:UInt32).toNat:Int)))).bind fun x22=>let x23:=CJ ((x22.toNat:Int)*((2:UInt32).toNat:Int));(if((100:UInt32).toNat:Int)=0 then none else some (CJ (j6 (x16.toNat:Int) ((100:UInt32).toNat:Int)))).bind fun x24=>
 let x25:=CJ ((x24.toNat:Int)*((2:UInt32).toNat:Int));let x28:=CJ ((x21.toNat:Int)+((1:UInt32).toNat:Int));(DN Gb (x28.toNat:Int)).bind fun x29=>(DN Gb (x21.toNat:Int)).bind fun x30=>(if 0+x7*1≤24 then Dl x7 (tx tz (s10.2.1-1))else none).bind fun x31=>(if x31<24 then some (s10.2.2.set x31 x29)else none).bind fun x32=>(if 0+x7*1≤24 then Dl x7 (tx tz (s10.2.1-2))else none).bind fun x33=>(if x33<24 then some (x32.set x33 x30)else none).bind fun x34=>let x37:=CJ ((x19.toNat:Int)+((1:UInt32).toNat:Int));(DN Gb (x37.toNat:Int)).bind fun x38=>(DN Gb (x19.toNat:Int)).bind fun x39=>(if 0+x7*1≤24 then Dl x7 (tx tz (s10.2.1-3))else none).bind fun x40=>(if x40<24 then some (x34.set x40 x38)else none).bind fun x41=>(if 0+x7*1≤24 then Dl x7 (tx tz (s10.2.1-4))else none).bind fun x42=>(if x42<24 then some (x41.set x42 x39)else none).bind fun x43=>let x46:=CJ ((x25.toNat:Int)+((1:UInt32).toNat:Int));(DN Gb (x46.toNat:Int)).bind fun x47=>(DN Gb (x25.toNat:Int)).bind fun x48=>(if 0+x7*1≤24 then Dl x7 (tx tz (s10.2.1-5))else none).bind fun x49=>(if x49<24 then some (x43.set x49 x47)else none).bind fun x50=>(if 0+x7*1≤24 then Dl x7 (tx tz (s10.2.1-6))else none).bind fun x51=>(if x51<24 then some (x50.set x51 x48)else none).bind fun x52=>let x55:=CJ ((x23.toNat:Int)+((1:UInt32).toNat:Int));(DN Gb (x55.toNat:Int)).bind fun x56=>(DN Gb (x23.toNat:Int)).bind fun x57=>(if 0+x7*1≤24 then Dl x7 (tx tz (s10.2.1-7))else none).bind fun x58=>
 (if x58<24 then some (x52.set x58 x56)else none).bind fun x59=>(if 0+x7*1≤24 then Dl x7 (tx tz (s10.2.1-8))else none).bind fun x60=>(if x60<24 then some (x59.set x60 x57)else none).bind fun x61=>some (.inl (x15,tx tz (s10.2.1-8),x61)) else some (.inr (.inl (s10.1,s10.2.1,s10.2.2)))) (a0,((x7:Nat):Int),(aw 24 bi).z)).bind (bd (fun(p11:(UInt64×Int×(Ar UInt8 24)))=>(if(decide (4≤p11.2.1))=true then (if((10000:UInt32).toNat:Int)=0 then none else some (CJ (j6 ((CJ (p11.1.toNat:Int)).toNat:Int) ((10000:UInt32).toNat:Int)))).bind fun x88=>(if((10000:UInt32).toNat:Int)=0 then none else some (CJ (jt ((CJ (p11.1.toNat:Int)).toNat:Int) ((10000:UInt32).toNat:Int)))).bind fun x89=>(if((100:UInt32).toNat:Int)=0 then none else some (CJ (jt (x88.toNat:Int) ((100:UInt32).toNat:Int)))).bind fun x90=>let x91:=CJ ((x90.toNat:Int)*((2:UInt32).toNat:Int));(if((100:UInt32).toNat:Int)=0 then none else some (CJ (j6 (x88.toNat:Int) ((100:UInt32).toNat:Int)))).bind fun x92=>let x93:=CJ ((x92.toNat:Int)*((2:UInt32).toNat:Int));let x96:=CJ ((x93.toNat:Int)+((1:UInt32).toNat:Int));(DN Gb (x96.toNat:Int)).bind fun x97=>(DN Gb (x93.toNat:Int)).bind fun x98=>(if 0+x7*1≤24 then Dl x7 (tx tz (p11.2.1-1))else none).bind fun x99=>(if x99<24 then some (p11.2.2.set x99 x97)else none).bind fun x100=>(if 0+x7*1≤24 then Dl x7 (tx tz (p11.2.1-2))else none).bind fun x101=>(if x101<24 then some (x100.set x101 x98)else none).bind fun x102=>let x105:=CJ ((x91.toNat:Int)+((1:UInt32).toNat:Int))
 (DN Gb (x105.toNat:Int)).bind fun x106=>(DN Gb (x91.toNat:Int)).bind fun x107=>(if 0+x7*1≤24 then Dl x7 (tx tz (p11.2.1-3))else none).bind fun x108=>(if x108<24 then some (x102.set x108 x106)else none).bind fun x109=>(if 0+x7*1≤24 then Dl x7 (tx tz (p11.2.1-4))else none).bind fun x110=>(if x110<24 then some (x109.set x110 x107)else none).bind fun x111=>some (.inl (tx tz (p11.2.1-4),x89,x111)) else some (.inl (p11.2.1,CJ (p11.1.toNat:Int),p11.2.2)):Option ((Int×UInt32×(Ar UInt8 24))⊕_)).bind (bd (fun(p65:(Int×UInt32×(Ar UInt8 24)))=>(if(decide (2≤p65.1))=true then (if((100:UInt32).toNat:Int)=0 then none else some (CJ (j6 (p65.2.1.toNat:Int) ((100:UInt32).toNat:Int)))).bind fun x75=>let x76:=CJ ((x75.toNat:Int)*((2:UInt32).toNat:Int));(if((100:UInt32).toNat:Int)=0 then none else some (CJ (jt (p65.2.1.toNat:Int) ((100:UInt32).toNat:Int)))).bind fun x77=>let x80:=CJ ((x76.toNat:Int)+((1:UInt32).toNat:Int));(DN Gb (x80.toNat:Int)).bind fun x81=>(DN Gb (x76.toNat:Int)).bind fun x82=>(if 0+x7*1≤24 then Dl x7 (tx tz (p65.1-1))else none).bind fun x83=>(if x83<24 then some (p65.2.2.set x83 x81)else none).bind fun x84=>(if 0+x7*1≤24 then Dl x7 (tx tz (p65.1-2))else none).bind fun x85=>(if x85<24 then some (x84.set x85 x82)else none).bind fun x86=>some (.inl (tx tz (p65.1-2),x77,x86)) else some (.inl (p65.1,p65.2.1,p65.2.2)):Option ((Int×UInt32×(Ar UInt8 24))⊕_)).bind (bd (fun(p68:(Int×UInt32×(Ar UInt8 24)))=>
 if(decide (0<p68.1))=true then let x71:=CJ (((48:UInt32).toNat:Int)+(p68.2.1.toNat:Int));(if 0+x7*1≤24 then Dl x7 0 else none).bind fun x73=>(if x73<24 then some (p68.2.2.set x73 (Kx (x71.toNat:Int)))else none).bind fun x74=>some x74 else some p68.2.2) some)) some)) some):Option (Ar UInt8 24)).bind (fun(p8:(Ar UInt8 24))=>((SV 24 none (some x6)).map fun p=>p.2).bind fun x113=>(frzO p8.l 0 x113 24).bind fun x114=>some x114.l) else none
def Lc(a:BG [bx,tv]):BE tb EZ [bx,tv] [Au] a:=Ad<|Ah (Ay EN)<|Ag<|Ad<|Ab r_<|Ai (A8 r_ Af AS) fun x1=>Ac<|ap Af (Ad<|Ad<|Ab r_<|Ai (DZ (I:=d4) r_ Af (Cm 100 r_)) fun x2=>Ac<|ap Af (Ad<|Ab r_<|Ai (E8 (I:=d4) (J:=tw) r_ Af) fun x3=>a7 (AI OI (.one Af)) fun x4=>Ab r_<|Ac<|a6 (.one (A7 r_))) (av<|Ag<|Aj (Bj (t:=(aw 24 bi)) 5 r_ r_) fun x5=>Ag<|Ab r_<|a7 (AI Mi (.one Af)) fun x6=>Ab r_<|Ag<|Ab r_<|a7 (qX r_ r_ Af (.some Af)) fun x7=>Ab r_<|fw (τ:=(Ar UInt8 24)) (φs:=[.oc 5 0 1 x7, .val bx a.1]) (n:=0) (L:=[(5, .cp 5 0),(6, .val tv x6)]) (Γr:=(fun p8=>⟨[],[ur p8,en_8,uq x6]⟩)) 2000000 (fun p8=>⟨[(21, .tup []),(5, .cp 5 0),(6, .val tv x6)],[ur p8]⟩) Lg r_ r_ r_ (Cd r_) (.cons (Fy Af)<| .cons (Fy Af)<| .nil) sB r_ (Ad<|Ab r_<|Ai (h_lenC Af) fun x9=>Ab r_<|Ag<|AF<|dm (id:=0) (σ:=(UInt64×Int×(Ar UInt8 24))) (τ:=(UInt64×Int×(Ar UInt8 24))) (fun s10=>⟨[(0, .oc 5 0 1 x7),(1, .val bx s10.1),(4, .val tv s10.2.1)],[(5, .cells [(24, .val (aw 24 bi) s10.2.2)]),en_8,uq x6]⟩) (fun p11=>⟨[(0, .oc 5 0 1 x7),(1, .val bx p11.1),(4, .val tv p11.2.1)],[(5, .cells [(24, .val (aw 24 bi) p11.2.2)]),en_8,uq x6]⟩) (a.1,x9,x5) sB (fun _=>r_) (fun s10=>Ad<|Ad<|Ab r_<|Ai (A8 r_ Af AS) fun x12=>
 Ac<|ap Af (av<|Ac<|AF<|Ad<|Ab r_<|a7 (VK (I:=tn) Af (Cm 100000000 r_)) fun x13=>Ai (E8 (I:=d4) (J:=ik) r_ Af) fun x14=>Ab r_<|Ag<|Ab r_<|a7 (Q5 (I:=d4) Af (Cm 100000000 r_)) fun x15=>Ab r_<|Ag<|Ab r_<|a7 (Q5 (I:=ik) Af (GN 10000 r_)) fun x16=>Ab r_<|a7 (VK (I:=sk) Af (GN 10000 r_)) fun x17=>Ab r_<|Ab r_<|Ag<|Ab r_<|a7 (Q5 (I:=ik) Af (GN 100 r_)) fun x18=>Ai (MY (I:=ik) Af (GN 2 r_)) fun x19=>Ab r_<|a7 (VK (I:=sk) Af (GN 100 r_)) fun x20=>Ai (MY (I:=ik) Af (GN 2 r_)) fun x21=>Ab r_<|Ab r_<|Ag<|Ab r_<|a7 (Q5 (I:=ik) Af (GN 100 r_)) fun x22=>Ai (MY (I:=ik) Af (GN 2 r_)) fun x23=>Ab r_<|a7 (VK (I:=sk) Af (GN 100 r_)) fun x24=>Ai (MY (I:=ik) Af (GN 2 r_)) fun x25=>Ab r_<|Ab r_<|Ag<|gv 2<|Ax r_ (Ay (Cq r_))<|Ax r_ (Ay (Cq r_))<|BW r_ (Es (I:=tw) Af AS) fun x26=>Ax r_ (Ay (Cq r_))<|Ax r_ (Ay (Cq r_))<|BW r_ (Es (I:=tw) Af AS) fun x27=>Ax r_ (Ay (Cq r_))<|BW r_ (B8 (I:=ik) Af (GN 1 r_)) fun x28=>je r_ (ES EN (OX Af)) fun x29=>Ax r_ (Ay (Cq r_))<|je r_ (ES EN (OX Af)) fun x30=>je r_ (JS 24 r_ r_ Af Af) fun x31=>C2 r_ (fun _=> .nil) (.nil) (GH (s:=(aw 24 bi)) (Ap _) r_ Af Af r_ r_) fun x32=>je r_ (JS 24 r_ r_ Af Af) fun x33=>C2 r_ (fun _=> .nil) (.nil) (GH (s:=(aw 24 bi)) (Ap _) r_ Af Af r_ r_) fun x34=>BC<|Ag<|gv 2<|Ax r_ (Ay (Cq r_))<|Ax r_ (Ay (Cq r_))<|BW r_ (Es (I:=tw) Af AS) fun x35=>Ax r_ (Ay (Cq r_))<|Ax r_ (Ay (Cq r_))<|
 BW r_ (Es (I:=tw) Af AS) fun x36=>Ax r_ (Ay (Cq r_))<|BW r_ (B8 (I:=ik) Af (GN 1 r_)) fun x37=>je r_ (ES EN (OX Af)) fun x38=>Ax r_ (Ay (Cq r_))<|je r_ (ES EN (OX Af)) fun x39=>je r_ (JS 24 r_ r_ Af Af) fun x40=>C2 r_ (fun _=> .nil) (.nil) (GH (s:=(aw 24 bi)) (Ap _) r_ Af Af r_ r_) fun x41=>je r_ (JS 24 r_ r_ Af Af) fun x42=>C2 r_ (fun _=> .nil) (.nil) (GH (s:=(aw 24 bi)) (Ap _) r_ Af Af r_ r_) fun x43=>BC<|Ag<|gv 2<|Ax r_ (Ay (Cq r_))<|Ax r_ (Ay (Cq r_))<|BW r_ (Es (I:=tw) Af AS) fun x44=>Ax r_ (Ay (Cq r_))<|Ax r_ (Ay (Cq r_))<|BW r_ (Es (I:=tw) Af AS) fun x45=>Ax r_ (Ay (Cq r_))<|BW r_ (B8 (I:=ik) Af (GN 1 r_)) fun x46=>je r_ (ES EN (OX Af)) fun x47=>Ax r_ (Ay (Cq r_))<|je r_ (ES EN (OX Af)) fun x48=>je r_ (JS 24 r_ r_ Af Af) fun x49=>C2 r_ (fun _=> .nil) (.nil) (GH (s:=(aw 24 bi)) (Ap _) r_ Af Af r_ r_) fun x50=>je r_ (JS 24 r_ r_ Af Af) fun x51=>C2 r_ (fun _=> .nil) (.nil) (GH (s:=(aw 24 bi)) (Ap _) r_ Af Af r_ r_) fun x52=>BC<|Ag<|gv 2<|Ax r_ (Ay (Cq r_))<|Ax r_ (Ay (Cq r_))<|BW r_ (Es (I:=tw) Af AS) fun x53=>Ax r_ (Ay (Cq r_))<|Ax r_ (Ay (Cq r_))<|BW r_ (Es (I:=tw) Af AS) fun x54=>Ax r_ (Ay (Cq r_))<|BW r_ (B8 (I:=ik) Af (GN 1 r_)) fun x55=>je r_ (ES EN (OX Af)) fun x56=>Ax r_ (Ay (Cq r_))<|je r_ (ES EN (OX Af)) fun x57=>je r_ (JS 24 r_ r_ Af Af) fun x58=>C2 r_ (fun _=> .nil) (.nil) (GH (s:=(aw 24 bi)) (Ap _) r_ Af Af r_ r_) fun x59=>je r_ (JS 24 r_ r_ Af Af) fun x60=>
 C2 r_ (fun _=> .nil) (.nil) (GH (s:=(aw 24 bi)) (Ap _) r_ Af Af r_ r_) fun x61=>BC<|Ac<|Ab r_<|Ai (Es (I:=tw) Af AS) fun x62=>Ab r_<|AX<|dl (x15,x62,x61) sB) (Bi<|BF (s10.1,s10.2.1,s10.2.2) sB)) (fun p11=>Bm<|Ag<|Ab r_<|Ai (E8 (I:=d4) (J:=ik) r_ Af) fun x63=>Ab r_<|Ag<|Ad<|Ab r_<|Ai (A8 r_ Af AS) fun x64=>Ac<|EF (τ:=(Int×UInt32×(Ar UInt8 24))) (fun p65=>⟨[(0, .oc 5 0 1 x7),(4, .val tv p65.1),(12, .val n8 p65.2.1)],[(5, .cells [(24, .val (aw 24 bi) p65.2.2)]),en_8,uq x6]⟩) (fun p65=>Ag<|Ad<|Ab r_<|Ai (A8 r_ Af AS) fun x67=>Ac<|EF (τ:=(Int×UInt32×(Ar UInt8 24))) (fun p68=>⟨[(0, .oc 5 0 1 x7),(4, .val tv p68.1),(12, .val n8 p68.2.1)],[(5, .cells [(24, .val (aw 24 bi) p68.2.2)]),en_8,uq x6]⟩) (fun p68=>Ag<|Ab r_<|Ai (A8 r_ Af AS) fun x70=>Ac<|ap Af (Ab r_<|Ab r_<|Ai (B8 (I:=ik) (GN 48 r_) Af) fun x71=>Ai (E8 (I:=ik) (J:=ib) r_ Af) fun x72=>a7 (JS 24 r_ r_ Af AS) fun x73=>B2 (GH (s:=(aw 24 bi)) (Ap _) r_ Af Af r_ r_) fun x74=>oT x74 (.nil) sB) (av<|oT p68.2.2 (.nil) sB))<|ap Af (Ad<|Ab r_<|a7 (VK (I:=sk) Af (GN 100 r_)) fun x75=>Ai (MY (I:=ik) Af (GN 2 r_)) fun x76=>Ab r_<|Ag<|Ab r_<|a7 (Q5 (I:=ik) Af (GN 100 r_)) fun x77=>Ab r_<|Ag<|gv 2<|Ax r_ (Ay (Cq r_))<|Ax r_ (Ay (Cq r_))<|BW r_ (Es (I:=tw) Af AS) fun x78=>Ax r_ (Ay (Cq r_))<|Ax r_ (Ay (Cq r_))<|BW r_ (Es (I:=tw) Af AS) fun x79=>
 Ax r_ (Ay (Cq r_))<|BW r_ (B8 (I:=ik) Af (GN 1 r_)) fun x80=>je r_ (ES EN (OX Af)) fun x81=>Ax r_ (Ay (Cq r_))<|je r_ (ES EN (OX Af)) fun x82=>je r_ (JS 24 r_ r_ Af Af) fun x83=>C2 r_ (fun _=> .nil) (.nil) (GH (s:=(aw 24 bi)) (Ap _) r_ Af Af r_ r_) fun x84=>je r_ (JS 24 r_ r_ Af Af) fun x85=>C2 r_ (fun _=> .nil) (.nil) (GH (s:=(aw 24 bi)) (Ap _) r_ Af Af r_ r_) fun x86=>BC<|Ac<|Ab r_<|Ai (Es (I:=tw) Af AS) fun x87=>Ab r_<|DF (x87,x77,x86) sB) (av<|DF (p65.1,p65.2.1,p65.2.2) sB))<|ap Af (Ad<|Ab r_<|a7 (VK (I:=sk) Af (GN 10000 r_)) fun x88=>Ab r_<|Ag<|Ab r_<|a7 (Q5 (I:=ik) Af (GN 10000 r_)) fun x89=>Ab r_<|Ag<|Ab r_<|a7 (Q5 (I:=ik) Af (GN 100 r_)) fun x90=>Ai (MY (I:=ik) Af (GN 2 r_)) fun x91=>Ab r_<|a7 (VK (I:=sk) Af (GN 100 r_)) fun x92=>Ai (MY (I:=ik) Af (GN 2 r_)) fun x93=>Ab r_<|Ab r_<|Ag<|gv 2<|Ax r_ (Ay (Cq r_))<|Ax r_ (Ay (Cq r_))<|BW r_ (Es (I:=tw) Af AS) fun x94=>Ax r_ (Ay (Cq r_))<|Ax r_ (Ay (Cq r_))<|BW r_ (Es (I:=tw) Af AS) fun x95=>Ax r_ (Ay (Cq r_))<|BW r_ (B8 (I:=ik) Af (GN 1 r_)) fun x96=>je r_ (ES EN (OX Af)) fun x97=>Ax r_ (Ay (Cq r_))<|je r_ (ES EN (OX Af)) fun x98=>je r_ (JS 24 r_ r_ Af Af) fun x99=>C2 r_ (fun _=> .nil) (.nil) (GH (s:=(aw 24 bi)) (Ap _) r_ Af Af r_ r_) fun x100=>je r_ (JS 24 r_ r_ Af Af) fun x101=>C2 r_ (fun _=> .nil) (.nil) (GH (s:=(aw 24 bi)) (Ap _) r_ Af Af r_ r_) fun x102=>BC<|Ag<|gv 2<|Ax r_ (Ay (Cq r_))<|
 Ax r_ (Ay (Cq r_))<|BW r_ (Es (I:=tw) Af AS) fun x103=>Ax r_ (Ay (Cq r_))<|Ax r_ (Ay (Cq r_))<|BW r_ (Es (I:=tw) Af AS) fun x104=>Ax r_ (Ay (Cq r_))<|BW r_ (B8 (I:=ik) Af (GN 1 r_)) fun x105=>je r_ (ES EN (OX Af)) fun x106=>Ax r_ (Ay (Cq r_))<|je r_ (ES EN (OX Af)) fun x107=>je r_ (JS 24 r_ r_ Af Af) fun x108=>C2 r_ (fun _=> .nil) (.nil) (GH (s:=(aw 24 bi)) (Ap _) r_ Af Af r_ r_) fun x109=>je r_ (JS 24 r_ r_ Af Af) fun x110=>C2 r_ (fun _=> .nil) (.nil) (GH (s:=(aw 24 bi)) (Ap _) r_ Af Af r_ r_) fun x111=>BC<|Ac<|Ab r_<|Ai (Es (I:=tw) Af AS) fun x112=>Ab r_<|DF (x112,x89,x111) sB) (av<|DF (p11.2.1,x63,p11.2.2) sB))) (fun p8=>AM sB r_ .none trivial sB) (.one fun p8=>Ag<|Ab r_<|a7 (qX r_ r_ Af (.some Af)) fun x113=>Aa.frzSl (o:=0) (k:=0) (m:=x113) (t:=(aw 24 bi)) (u:=bi) 23 (Ap _) r_ r_ r_ r_ fun x114=>Ai (h_cvs Af) fun x115=>Ab r_<|Ac<|a6 (.one (A7 r_))))) (av<|Ag<|Ab r_<|Ab r_<|nl)
theorem Ls:Spec tb Dp [bx,tv] [Au] (fun a=>Cz a.1 a.2):=
 Spec.of Mx r_ r_ r_ Lc
def JI(a0:UInt64)(a1:Int):Option AP:=(Cz a0 a1).bind fun x1=>some x1
def Ri(a:BG [bx,tv]):BE tb Iy [bx,tv] [Au] a:=Ad<|Ah (Ay EN)<|Ag<|Ab r_<|Ab r_<|a7 (AI Ls (.cons Af<| .one Af)) fun x1=>Ab r_<|Ac<|a6 (.one (A7 r_))
theorem SE:Spec tb Ga [bx,tv] [Au] (fun a=>JI a.1 a.2):=
 Spec.of T4 r_ r_ r_ Ri
def Ed(a0:UInt64):Option AP:=(JI a0 10).bind fun x1=>some x1
def Yq(a:BG [bx]):BE tb O1 [bx] [Au] a:=Ad<|Ah (Ay EN)<|Ag<|Ab r_<|a7 (AI SE (.cons Af<| .one AS)) fun x1=>Ab r_<|Ac<|a6 (.one (A7 r_))
theorem H7:Spec tb Fo [bx] [Au] (fun a=>Ed a):=
 Spec.of gX r_ r_ r_ Yq
def Ko(a0:(GS AP))(a1:AP):Option AP:=if(decide ((a0.l.length:Int)=0))=true then some [] else if(decide ((a0.l.length:Int)=1))=true then (DN a0.l 0).bind fun x4=>some x4 else (if(decide (0<(a1.length:Int)))=true then (if tx tz ((a0.l.length:Int)-1)=0 then none else some (tx tz (jt 9223372036854775807 (tx tz ((a0.l.length:Int)-1))))).bind fun x41=>if(decide (x41≤(a1.length:Int)))=true then none else let x46:=tx tz ((a1.length:Int)*tx tz ((a0.l.length:Int)-1));some (.inl (tx tz (0+x46))) else some (.inl 0):Option (Int⊕_)).bind (bd (fun(p8:Int)=>(iter (fun(s11:(Int×Int))=>if(decide (s11.2<(a0.l.length:Int)))=true then (DN a0.l s11.2).bind fun x14=>let x18:=decide (tx tz (9223372036854775807-s11.1)<(x14.length:Int));if x18=true then none else some (.inl (tx tz (s11.1+(x14.length:Int)),tx tz (s11.2+1))) else some (.inr (.inl s11.1))) (p8,0)).bind (bd (fun(p12:Int)=>(vE [] p12).bind fun x23=>(DN a0.l 0).bind fun x24=>(OP [] x24).bind fun x26=>(slG a0 (some 1) none).bind fun x27=>(iter (fun(s29:(Int×AP))=>if(decide (s29.1<(x27.l.length:Int)))=true then (DN x27.l s29.1).bind fun x32=>(OP s29.2 a1).bind fun x34=>(OP x34 x32).bind fun x35=>some (.inl (tx tz (s29.1+1),x35)) else some (.inr (.inl s29.2))) (0,x26)).bind (bd (fun(p30:AP)=>(sD (decide (0<p12)) p30).bind fun x37=>some x37) some)) some)) some)
def Yh(a:BG [(db Au),Au]):BE tb Ol [(db Au),Au] [Au] a:=Ad<|Ah (Ay EN)<|Ag<|Ad<|Ab r_<|Ai (D5 Af) fun x1=>Ac<|AF<|Ad<|Ai (A8 r_ Af AS) fun x2=>Ab r_<|Ac<|ap Af (Ad<|Ah (Ay EN)<|Ac<|a6 (.one (A7 r_))) (Ad<|Ai (A8 r_ Af AS) fun x3=>Ab r_<|Ac<|ap Af (Ad<|Ab r_<|a7 (Gu r_ Af AS) fun x4=>An (IY r_ r_ Af) fun x5=>Ab r_<|Ac<|a6 (.one (A7 r_))) (av<|AX<|Ag<|Ah (Ay AS)<|Ag<|Ad<|Ab r_<|Ai (CC Af) fun x6=>Ai (A8 r_ Af AS) fun x7=>Ac<|EF (τ:=Int) (fun p8=>⟨[(0, .val (db Au) a.1),(1, .val Au a.2),(5, .val tv p8)],[]⟩) (fun p8=>Ag<|Ad<|Ab r_<|Ai (D5 Af) fun x10=>Ah (Ay AS)<|Ac<|AF<|dm (id:=1) (σ:=(Int×Int)) (τ:=Int) (fun s11=>⟨[(0, .val (db Au) a.1),(1, .val Au a.2),(5, .val tv s11.1),(39, .val (db Au) a.1),(40, .val tv x10),(41, .val tv s11.2)],[]⟩) (fun p12=>⟨[(0, .val (db Au) a.1),(1, .val Au a.2),(5, .val tv p12)],[]⟩) (p8,0) sB (fun _=>r_) (fun s11=>Ad<|Ai (A8 r_ Af Af) fun x13=>Ag<|ap Af (av<|Ag<|AF<|Ad<|a7 (Gu r_ Af Af) fun x14=>An (IY r_ r_ Af) fun x15=>Ab r_<|Ag<|Ad<|Ab r_<|Ai (CC Af) fun x16=>Ab r_<|Ai (Es (I:=tw) AS Af) fun x17=>Ai (A8 r_ Af Af) fun x18=>Ac<|ap Af (Ah (h_mkif (t:=9))<|nl) (av<|Ac<|Ab r_<|Ab r_<|Ai (CC Af) fun x19=>Ai (B8 (I:=tw) Af Af) fun x20=>Ab r_<|AX<|Ac<|Ai (B8 (I:=tw) Af AS) fun x21=>Ab r_<|dl (x20,x21) sB)) (Bi<|BF s11.1 sB)) (fun p12=>Bm<|Ag<|Aj (AbA 8 5 r_ r_) fun x22=>Ag<|Ab r_<|B2 (M_bldR BH r_ PG r_ Af r_ Af) fun x23=>
 Ag<|Ab r_<|a7 (Gu r_ Af AS) fun x24=>An (IY r_ r_ Af) fun x25=>B2 (jI BH r_ C1 Af r_ Af) fun x26=>Ag<|Ad<|Ab r_<|a7 (h_sll r_ Af (.some AS) .none) fun x27=>Ai (D5 Af) fun x28=>Ah (Ay AS)<|Ac<|AF<|dm (id:=3) (σ:=(Int×AP)) (τ:=AP) (fun s29=>⟨[(1, .val Au a.2),(8, .own 8),(63, .val (db Au) x27),(64, .val tv x28),(65, .val tv s29.1)],[(8, .dom (Sd 119 5 (decide (0<p12))) s29.2)]⟩) (fun p30=>⟨[(8, .own 8)],[(8, .dom (Sd 119 5 (decide (0<p12))) p30)]⟩) (0,x26) sB (fun _=>r_) (fun s29=>Ad<|Ai (A8 r_ Af Af) fun x31=>Ag<|ap Af (av<|Ag<|AF<|Ad<|a7 (Gu r_ Af Af) fun x32=>An (IY r_ r_ Af) fun x33=>Ab r_<|Ag<|Ab r_<|B2 (jI BH r_ C1 Af r_ Af) fun x34=>Ac<|Ab r_<|B2 (jI BH r_ C1 Af r_ Af) fun x35=>AX<|Ac<|Ai (B8 (I:=tw) Af AS) fun x36=>Ab r_<|dl (x36,x35) sB) (Bi<|BF s29.2 sB)) (fun p30=>Bm<|Ag<|B2 (Ab9 FS Af r_) fun x37=>Ab r_<|Ac<|a6 (.one (A7 r_)))))<|ap Af (Ad<|Ad<|Ab r_<|Ai (CC Af) fun x38=>Ab r_<|Ai (D5 Af) fun x39=>Ai (Es (I:=tw) Af AS) fun x40=>a7 (Q5 (I:=tw) AS Af) fun x41=>Ai (A8 r_ Af Af) fun x42=>Ac<|ap Af (Ah (h_mkif (t:=9))<|nl) (av<|Ac<|Ab r_<|Ab r_<|Ai (CC Af) fun x43=>Ab r_<|Ai (D5 Af) fun x44=>Ai (Es (I:=tw) Af AS) fun x45=>Ai (MY (I:=tw) Af Af) fun x46=>Ai (B8 (I:=tw) Af Af) fun x47=>Ab r_<|DF x47 sB)) (av<|DF 0 sB)))
theorem Sf:Spec tb HA [(db Au),Au] [Au] (fun a=>Ko a.1 a.2):=
 Spec.of gJ r_ r_ r_ Yh
def Uj(a0:(Ar UInt8 4)):Option AP:=(iter (fun(s3:(Int×(Ar AP 4)))=>if(decide (s3.1<4))=true then (DN a0.l s3.1).bind fun x6=>(Ed (Cw (x6.toNat:Int))).bind fun x8=>(Dl 4 s3.1).bind fun x9=>(if x9<4 then some (s3.2.set x9 x8)else none).bind fun x10=>some (.inl (tx tz (s3.1+1),x10)) else some (.inr (.inl s3.2))) (0,(aw 4 Au).z)).bind (bd (fun(p4:(Ar AP 4))=>(if 0+4≤4 then Ko (GS.mk ((p4.l.drop 0).take 4)) [46]else none).bind fun x12=>some x12) some)
def kC(a:BG [(aw 4 bi)]):BE tb TF [(aw 4 bi)] [Au] a:=Ad<|Aj (B3 (t:=(aw 4 bi)) 1 r_ r_ Af) fun _=>Ah (Ay EN)<|Ag<|Aj (Bj (t:=(aw 4 Au)) 3 r_ r_) fun x1=>Ag<|Ad<|An (A4 (t:=(aw 4 bi)) (u:=(aw 4 bi)) Af r_ r_ (Ap _) r_ r_) fun x2=>Ah (Ay AS)<|Ac<|AF<|dm (id:=0) (σ:=(Int×(Ar AP 4))) (τ:=(Ar AP 4)) (fun s3=>⟨[(3, .cp 3 0),(6, .val (aw 4 bi) x2),(7, .val tv s3.1)],[(3, .cells [(4, .val (aw 4 Au) s3.2)])]⟩) (fun p4=>⟨[(3, .cp 3 0)],[(3, .cells [(4, .val (aw 4 Au) p4)])]⟩) (0,x1) sB (fun _=>r_) (fun s3=>Ad<|Ai (A8 r_ Af AS) fun x5=>Ag<|ap Af (av<|Ag<|AF<|Ad<|Ab r_<|a7 (h_ixa r_ r_ r_ Af Af) fun x6=>Ab r_<|Ab r_<|Ac<|Ab r_<|Ab r_<|Ai (E8 (I:=ib) (J:=d4) r_ Af) fun x7=>a7 (AI H7 (.one Af)) fun x8=>a7 (EB Af Af) fun x9=>B2 (GH (s:=(aw 4 Au)) (Ap _) r_ Af Af r_ r_) fun x10=>AX<|Ac<|Ai (B8 (I:=tw) Af AS) fun x11=>Ab r_<|dl (x11,x10) sB) (Bi<|BF s3.2 sB)) (fun p4=>Bm<|Ag<|Ah (PA (k:=0) (m:=4) r_ r_ Af .none .none r_ r_ r_)<|a7 (ND (c:=0+4≤4) Sf (.cons T2 .nil) (fun hc=> .cons (a_s (o:=0) (k:=0) (m:=4) (n:=4) (Ap _) r_ Af r_ r_ hc)<| .one (a_v EN))) fun x12=>Ab r_<|Ac<|a6 (.one (A7 r_)))
theorem pL:Spec tb Nu [(aw 4 bi)] [Au] (fun a=>Uj a):=
 Spec.of wD r_ r_ r_ kC
def N1(a0:(GS UInt8)):Option Bool:=(Cr (decide (1≤(a0.l.length:Int))) (some (decide ((a0.l.length:Int)≤8)))).bind fun x5=>some x5
def Yo(a:BG [(db bi)]):BE tb Oz [(db bi)] [du] a:=Ad<|Ah (Ay DT)<|Ag<|Ab r_<|Ai (D5 Af) fun x1=>Ai (A8 r_ Af AS) fun x2=>Ab r_<|gu 3 r_ r_ r_ (AR (Ay (Cq r_))<|AZ (D5 Af) fun x3=>AZ (A8 r_ Af AS) fun x4=>dh Af) fun x5=>Ab r_<|Ac<|a6 (.one (A7 r_))
theorem aA:Spec tb JB [(db bi)] [du] (fun a=>N1 a):=
 Spec.of gV r_ r_ r_ Yo
def N2(a0:(GS UInt8)):Option (UInt64×Int):=(N1 a0).bind fun x1=>if(!x1)=true then some ((0:UInt64),1) else (iter (fun(s4:(UInt64×Int))=>if(decide (s4.2<(a0.l.length:Int)))=true then (DN a0.l s4.2).bind fun x7=>(if((8:UInt64).toNat:Int)<0 then none else some (Cw ((s4.1.toNat:Int)*2^(min ((8:UInt64).toNat:Int).toNat 64)))).bind fun x9=>let x11:=Cw (FF .or .u64 (x9.toNat:Int) ((Cw (x7.toNat:Int)).toNat:Int));some (.inl (x11,tx tz (s4.2+1))) else some (.inr (.inl s4.1))) ((0:UInt64),0)).bind (bd (fun(p5:UInt64)=>some (p5,0)) some)
def Yp(a:BG [(db bi)]):BE tb O0 [(db bi)] [bx,tv] a:=Ad<|Ah (Ay (Cm 0 r_))<|Ah (Ay AS)<|Ag<|Ad<|Ab r_<|a7 (AI aA (.one Af)) fun x1=>Ai (Df Af) fun x2=>Ac<|ap Af (Ad<|Ah (Ay (Cm 0 r_))<|Ah (Ay AS)<|Ac<|a6 (.cons (A7 r_)<| .one (A7 r_))) (av<|Ag<|Ah (Ay (Cm 0 r_))<|Ag<|Ad<|Ab r_<|Ai (D5 Af) fun x3=>Ah (Ay AS)<|Ac<|AF<|dm (id:=0) (σ:=(UInt64×Int)) (τ:=UInt64) (fun s4=>⟨[(4, .val bx s4.1),(10, .val (db bi) a),(11, .val tv x3),(12, .val tv s4.2)],[]⟩) (fun p5=>⟨[(4, .val bx p5)],[]⟩) ((0:UInt64),0) sB (fun _=>r_) (fun s4=>Ad<|Ai (A8 r_ Af Af) fun x6=>Ag<|ap Af (av<|Ag<|AF<|Ad<|a7 (Gu r_ Af Af) fun x7=>An (IY r_ r_ Af) fun x8=>Ab r_<|Ac<|Ab r_<|a7 (fW (I:=d4) (J:=d4) Af (Cm 8 r_)) fun x9=>Ab r_<|Ai (E8 (I:=ib) (J:=d4) r_ Af) fun x10=>Ai (Aa8 (I:=d4) Af Af) fun x11=>Ab r_<|AX<|Ac<|Ai (B8 (I:=tw) Af AS) fun x12=>Ab r_<|dl (x11,x12) sB) (Bi<|BF s4.1 sB)) (fun p5=>Bm<|Ag<|Ab r_<|Ab r_<|Ah (Ay AS)<|Ac<|a6 (.cons (A7 r_)<| .one (A7 r_))))
theorem aB:Spec tb JC [(db bi)] [bx,tv] (fun a=>N2 a):=
 Spec.of gW r_ r_ r_ Yp
def N4(a0:(Ar UInt8 16)):Option (Ar UInt16 8):=(iter (fun(s3:(Int×(Ar UInt16 8)))=>if(decide (s3.1<8))=true then let x8:=tx tz (tx tz (2*s3.1)+2);(SV 16 (some (tx tz (2*s3.1))) (some x8)).bind fun x9=>(if x9.1+(x9.2-x9.1)≤16 then N2 (GS.mk ((a0.l.drop x9.1).take (x9.2-x9.1)))else none).bind fun x10=>(Dl 8 s3.1).bind fun x14=>(if x14<8 then some (s3.2.set x14 (Da (x10.1.toNat:Int)))else none).bind fun x15=>some (.inl (tx tz (s3.1+1),x15)) else some (.inr (.inl s3.2))) (0,(aw 8 dy).z)).bind (bd (fun(p4:(Ar UInt16 8))=>some p4) some)
def Ys(a:BG [(aw 16 bi)]):BE tb O3 [(aw 16 bi)] [(aw 8 dy)] a:=Ad<|Aj (B3 (t:=(aw 16 bi)) 1 r_ r_ Af) fun _=>Aj (Bj (t:=(aw 8 dy)) 2 r_ r_) fun x1=>Ag<|Aj (Bj (t:=(aw 8 dy)) 3 r_ r_) fun x2=>Ag<|Ad<|Ah (Ay AS)<|Ac<|AF<|dm (id:=0) (σ:=(Int×(Ar UInt16 8))) (τ:=(Ar UInt16 8)) (fun s3=>⟨[(1, .cp 1 0),(2, .cp 2 0),(3, .cp 3 0),(7, .val tv s3.1)],[(1, .cells [(16, .val (aw 16 bi) a)]),(2, .cells [(8, .val (aw 8 dy) x1)]),(3, .cells [(8, .val (aw 8 dy) s3.2)])]⟩) (fun p4=>⟨[(2, .cp 2 0),(3, .cp 3 0)],[(2, .cells [(8, .val (aw 8 dy) x1)]),(3, .cells [(8, .val (aw 8 dy) p4)])]⟩) (0,x2) sB (fun _=>r_) (fun s3=>Ad<|Ai (A8 r_ Af AS) fun x5=>Ag<|ap Af (av<|Ag<|AF<|Ad<|Ab r_<|Ab r_<|Ag<|Ab r_<|Ai (MY (I:=tw) AS Af) fun x6=>Ab r_<|Ai (MY (I:=tw) AS Af) fun x7=>Ai (B8 (I:=tw) Af AS) fun x8=>a7 (YC r_ r_ Af (.some Af) (.some Af)) fun x9=>a7 (h_callRcN (c:=x9.1+(x9.2-x9.1)≤16) aB (.cons flat_u64 (.cons vP .nil)) (fun hc=> .one (a_s (o:=0) (k:=x9.1) (m:=x9.2-x9.1) (n:=16) (Ap _) r_ Af r_ r_ hc))) fun x10=>Ab r_<|An (AU Af r_) fun x11=>An (AU Af r_) fun x12=>Ab r_<|Ab r_<|Ac<|Ab r_<|Ab r_<|Ai (E8 (I:=d4) (J:=jf) r_ Af) fun x13=>a7 (EB Af Af) fun x14=>B2 (GH (s:=(aw 8 dy)) (Ap _) r_ Af Af r_ r_) fun x15=>AX<|Ac<|Ai (B8 (I:=tw) Af AS) fun x16=>Ab r_<|dl (x16,x15) sB) (Bi<|BF s3.2 sB)) (fun p4=>Bm<|Ag<|An (A4 (t:=(aw 8 dy)) (u:=(aw 8 dy)) Af r_ r_ (Ap _) r_ r_) fun x17=>
 Aj (Bc Af Af r_ r_ (Ap _) r_) fun x18=>Ac<|a6 (.one (BO r_ r_ r_ (Ap _) r_ r_)))
theorem aD:Spec tb JD [(aw 16 bi)] [(aw 8 dy)] (fun a=>N4 a):=
 Spec.of gZ r_ r_ r_ Ys
def Md(a0:(Ar UInt16 8)):Option (Int×Int):=(iter (fun(s2:(Int×Int×Int×Int))=>if(decide (s2.2.2.2<8))=true then (DN a0.l s2.2.2.2).bind fun x5=>let x6:= !decide ((x5.toNat:Int)=((0:UInt16).toNat:Int));if x6=true then some (.inl (s2.1,s2.2.1,0,tx tz (s2.2.2.2+1))) else let x9:=decide (s2.2.1<tx tz (s2.2.2.1+1));if x9=true then let x11:=tx tz (tx tz (s2.2.2.2+1)-tx tz (s2.2.2.1+1));some (.inl (x11,tx tz (s2.2.2.1+1),tx tz (s2.2.2.1+1),tx tz (s2.2.2.2+1))) else some (.inl (s2.1,s2.2.1,tx tz (s2.2.2.1+1),tx tz (s2.2.2.2+1))) else some (.inr (.inl (s2.1,s2.2.1)))) (0,0,0,0)).bind (bd (fun(p3:(Int×Int))=>some (p3.1,p3.2)) some)
def W9(a:BG [(aw 8 dy)]):BE tb MT [(aw 8 dy)] [tv,tv] a:=Ad<|Aj (B3 (t:=(aw 8 dy)) 1 r_ r_ Af) fun _=>Ah (Ay AS)<|Ah (Ay AS)<|Ag<|Ah (Ay AS)<|Ag<|Ad<|An (A4 (t:=(aw 8 dy)) (u:=(aw 8 dy)) Af r_ r_ (Ap _) r_ r_) fun x1=>Ah (Ay AS)<|Ac<|AF<|dm (id:=0) (σ:=(Int×Int×Int×Int)) (τ:=(Int×Int)) (fun s2=>⟨[(2, .val tv s2.1),(3, .val tv s2.2.1),(4, .val tv s2.2.2.1),(7, .val (aw 8 dy) x1),(8, .val tv s2.2.2.2)],[]⟩) (fun p3=>⟨[(2, .val tv p3.1),(3, .val tv p3.2)],[]⟩) (0,0,0,0) sB (fun _=>r_) (fun s2=>Ad<|Ai (A8 r_ Af AS) fun x4=>Ag<|ap Af (av<|Ag<|AF<|Ad<|Ab r_<|a7 (h_ixa r_ r_ r_ Af Af) fun x5=>Ab r_<|Ab r_<|Ag<|Ad<|Ab r_<|Ai (DZ (I:=jf) r_ Af (Z3 0 r_)) fun x6=>Ac<|ap Af (Ad<|Ah (Ay AS)<|Ac<|Bi<|Bm<|Ac<|Ai (B8 (I:=tw) Af AS) fun x7=>Ab r_<|dl (s2.1,s2.2.1,0,x7) sB) (av<|Ag<|Ab r_<|Ai (B8 (I:=tw) Af AS) fun x8=>Ab r_<|Ag<|Ab r_<|Ab r_<|Ai (A8 r_ Af Af) fun x9=>Ac<|ap Af (Ab r_<|Ai (B8 (I:=tw) Af AS) fun x10=>Ab r_<|Ai (Es (I:=tw) Af Af) fun x11=>Ab r_<|Ab r_<|Ab r_<|AX<|Ac<|Ai (B8 (I:=tw) Af AS) fun x12=>Ab r_<|dl (x11,x8,x8,x12) sB) (av<|AX<|Ac<|Ai (B8 (I:=tw) Af AS) fun x13=>Ab r_<|dl (s2.1,s2.2.1,x8,x13) sB))) (Bi<|BF (s2.1,s2.2.1) sB)) (fun p3=>Bm<|Ag<|Ab r_<|Ab r_<|Ab r_<|Ab r_<|Ac<|a6 (.cons (A7 r_)<| .one (A7 r_)))
theorem Ye:Spec tb IM [(aw 8 dy)] [tv,tv] (fun a=>Md a):=
 Spec.of bL r_ r_ r_ W9
def OZ(a0:UInt16):Option AP:=(iter (fun(s1:(UInt16×AP))=>let x3:=Da (FF .and .u16 (s1.1.toNat:Int) ((15:UInt16).toNat:Int));(DN ([48,49,50,51,52,53,54,55,56,57,97,98,99,100,101,102]:AP) (x3.toNat:Int)).bind fun x4=>(if(encC (x4.toNat:Int)).length+s1.2.length≤2*Ci then some (encC (x4.toNat:Int)++s1.2)else none).bind fun x6=>(if((4:UInt64).toNat:Int)<0 then none else some (Da (kw (s1.1.toNat:Int) (2^(min ((4:UInt64).toNat:Int).toNat 16))))).bind fun x7=>let x8:=decide ((x7.toNat:Int)=((0:UInt16).toNat:Int));if x8=true then (some x6).map fun r=> .inr (.inr r) else some (.inl (x7,x6))) (a0,[])).bind (bd (fun _:Empty=>none) some)
def aM(a:BG [dy]):BE tb PX [dy] [Au] a:=Ad<|Ah (Ay EN)<|Ag<|Ah (Ay EN)<|Ac<|AF<|dm (id:=0) (σ:=(UInt16×AP)) (τ:=Empty) (fun s1=>⟨[(0, .val dy s1.1),(3, .val Au s1.2)],[]⟩) (fun p=>p.elim) (a,[]) sB (fun _=>r_) (fun s1=>AF<|Ad<|Ab r_<|Ai (h_and (I:=jf) Af (Z3 15 r_)) fun x3=>a7 (ES EN (o_n16 Af)) fun x4=>Ai (h_cvcE (I:=ib) Af) fun x5=>Ab r_<|a7 (MA Af Af) fun x6=>Ab r_<|Ag<|Ab r_<|a7 (YD (I:=NT.u16) (J:=d4) Af (Cm 4 r_)) fun x7=>Ab r_<|Ag<|Ab r_<|Ai (DZ (I:=jf) r_ Af (Z3 0 r_)) fun x8=>Ac<|ap Af (Ad<|Ab r_<|Ab r_<|Ac<|Bq<|a6 (.one (A7 r_))) (av<|AX<|dl (x7,x6) sB)) (fun _=>nl)
theorem dK:Spec tb KC [dy] [Au] (fun a=>OZ a):=
 Spec.of lC r_ r_ r_ aM
def NF(a0:(GS UInt16)):Option AP:=(iter (fun(s2:(Int×(GS AP)))=>if(decide (s2.1<(a0.l.length:Int)))=true then (DN a0.l s2.1).bind fun x5=>(OZ x5).bind fun x7=>(SS 16 s2.2 [x7]).bind fun x9=>some (.inl (tx tz (s2.1+1),x9)) else some (.inr (.inl s2.2))) (0, .nil)).bind (bd (fun(p3:(GS AP))=>(Ko p3 [58]).bind fun x11=>some x11) some)
def kG(a:BG [(db dy)]):BE tb TK [(db dy)] [Au] a:=Ad<|Ah (Ay EN)<|Ag<|Ah (Ay (Fj (t:=Au)))<|jj (born (n:=3) (j:=1003) r_ r_)<|Ag<|Ad<|Ab r_<|Ai (D5 Af) fun x1=>Ah (Ay AS)<|Ac<|AF<|dm (id:=0) (σ:=(Int×(GS AP))) (τ:=(GS AP)) (fun s2=>⟨[(3, .own 1003),(6, .val (db dy) a),(7, .val tv x1),(8, .val tv s2.1)],[(1003, .row Au s2.2)]⟩) (fun p3=>⟨[(3, .own 1003)],[(1003, .row Au p3)]⟩) (0, .nil) sB (fun _=>r_) (fun s2=>Ad<|Ai (A8 r_ Af Af) fun x4=>Ag<|ap Af (av<|Ag<|AF<|Ad<|a7 (Gu r_ Af Af) fun x5=>An (IY r_ r_ Af) fun x6=>Ab r_<|Ac<|Ab r_<|Ab r_<|a7 (AI dK (.one Af)) fun x7=>Ai (Pb (t:=Au) (n:=1) r_ r_ (.cons r_ Af<| .nil _)) fun x8=>B2 (OD r_ Af r_ (VB Af)) fun x9=>Ab r_<|AX<|Ac<|Ai (B8 (I:=tw) Af AS) fun x10=>Ab r_<|dl (x10,x9) sB) (Bi<|BF s2.2 sB)) (fun p3=>Bm<|Ag<|Ab r_<|gt 1003 r_ r_<|a7 (AI Sf (.cons Af<| .one EN)) fun x11=>Ab r_<|Ac<|a6 (.one (A7 r_)))
theorem Rc:Spec tb IL [(db dy)] [Au] (fun a=>NF a):=
 Spec.of wG r_ r_ r_ kG
def R9(a0:(Ar UInt8 16)):Option AP:=(N4 a0).bind fun x2=>(Md x2).bind fun x6=>if(decide (x6.2<2))=true then (if 0+8≤8 then NF (GS.mk ((x2.l.drop 0).take 8))else none).bind fun x10=>some x10 else ((SV 8 none (some x6.1)).map fun p=>p.2).bind fun x11=>(if 0+x11≤8 then NF (GS.mk ((x2.l.drop 0).take x11))else none).bind fun x12=>(if x12.length+[58,58].length≤2*Ci then some (x12++[58,58])else none).bind fun x13=>(SV 8 (some (tx tz (x6.1+x6.2))) none).bind fun x15=>(if x15.1+(x15.2-x15.1)≤8 then NF (GS.mk ((x2.l.drop x15.1).take (x15.2-x15.1)))else none).bind fun x16=>(if x13.length+x16.length≤2*Ci then some (x13++x16)else none).bind fun x17=>some x17
def dX(a:BG [(aw 16 bi)]):BE tb RS [(aw 16 bi)] [Au] a:=Ad<|Aj (B3 (t:=(aw 16 bi)) 1 r_ r_ Af) fun _=>Ah (Ay EN)<|Ag<|An (A4 (t:=(aw 16 bi)) (u:=(aw 16 bi)) Af r_ r_ (Ap _) r_ r_) fun x1=>a7 (AI aD (.one Af)) fun x2=>Aj (Bj (t:=(aw 8 dy)) 3 r_ r_) fun x3=>Aj (Bc Af Af r_ r_ (Ap _) r_) fun x4=>Ag<|An (A4 (t:=(aw 8 dy)) (u:=(aw 8 dy)) Af r_ r_ (Ap _) r_ r_) fun x5=>a7 (B4 Ye (.one Af)) fun x6=>Ab r_<|An (AU Af r_) fun x7=>An (AU Af r_) fun x8=>Ab r_<|Ab r_<|Ag<|Ad<|Ab r_<|Ai (A8 r_ Af AS) fun x9=>Ac<|ap Af (Ad<|Ah (PA (k:=0) (m:=8) r_ r_ Af .none .none r_ r_ r_)<|a7 (ND (c:=0+8≤8) Rc (.cons T2 .nil) (fun hc=> .one (a_s (o:=0) (k:=0) (m:=8) (n:=8) (Ap _) r_ Af r_ r_ hc))) fun x10=>Ab r_<|Ac<|a6 (.one (A7 r_))) (av<|Ag<|Ab r_<|a7 (qX r_ r_ Af (.some Af)) fun x11=>a7 (ND (c:=0+x11≤8) Rc (.cons T2 .nil) (fun hc=> .one (a_s (o:=0) (k:=0) (m:=x11) (n:=8) (Ap _) r_ Af r_ r_ hc))) fun x12=>a7 (MA Af EN) fun x13=>Ab r_<|Ab r_<|Ai (B8 (I:=tw) Af Af) fun x14=>a7 (YC r_ r_ Af (.some Af) .none) fun x15=>a7 (ND (c:=x15.1+(x15.2-x15.1)≤8) Rc (.cons T2 .nil) (fun hc=> .one (a_s (o:=0) (k:=x15.1) (m:=x15.2-x15.1) (n:=8) (Ap _) r_ Af r_ r_ hc))) fun x16=>a7 (MA Af Af) fun x17=>Ab r_<|Ac<|a6 (.one (A7 r_)))
theorem jS:Spec tb LZ [(aw 16 bi)] [Au] (fun a=>R9 a):=
 Spec.of rM r_ r_ r_ dX
def NI(a0:AG):Option AP:=(I5 a0).bind fun x2=>if(!x2)=true then some [] else if(decide (a0.V=4))=true then let x6:=(⟨(a0.B.l.drop 0).take 4,by rw[aq,bk,Ar.len];rfl⟩:(Ar UInt8 4));(Uj x6).bind fun x7=>some x7 else (R9 a0.B).bind fun x9=>some x9
def kJ(a:BG [Ao]):BE tb TN [Ao] [Au] a:=Ad<|Aj (B3 (t:=Ao) 1 r_ r_ Af) fun _=>Ah (Ay EN)<|Ag<|AF<|Ad<|An (A4 (t:=Ao) (u:=Ao) Af r_ r_ (Ap _) r_ r_) fun x1=>a7 (AI Ji (.one Af)) fun x2=>Ai (Df Af) fun x3=>Ab r_<|Ac<|ap Af (Ad<|Ah (Ay EN)<|Ac<|a6 (.one (A7 r_))) (Ad<|Ah (AA Af)<|An (A4 (t:=Ao) (u:=tv) Af r_ r_ Cf r_ r_) fun x4=>Ai (A8 r_ Af AS) fun x5=>Ab r_<|Ac<|ap Af (Ad<|Ah (AA Af)<|Ah (PA (k:=0) (m:=4) r_ r_ Af .none (.some AS) r_ r_ r_)<|Ah (h_s2aC Af r_)<|An (A4 (t:=Ao) (u:=(aw 4 bi)) Af r_ r_ (M3 Cu (Zn 16 bi 0 4 (by decide))) r_ r_) fun x6=>a7 (AI pL (.one Af)) fun x7=>Ab r_<|Ac<|a6 (.one (A7 r_))) (av<|AX<|Ag<|Ah (AA Af)<|An (A4 (t:=Ao) (u:=(aw 16 bi)) Af r_ r_ Cu r_ r_) fun x8=>a7 (AI jS (.one Af)) fun x9=>Ab r_<|Ac<|a6 (.one (A7 r_))))
theorem Re:Spec tb IP [Ao] [Au] (fun a=>NI a):=
 Spec.of wJ r_ r_ r_ kJ
def LT(a0:AJ):Option AP:=(ER a0).bind fun x2=>if(!x2)=true then some [] else (Ed (Cw a0.Port)).bind fun x6=>(H4 a0.A).bind fun x8=>if(decide (32<x8))=true then (NI a0.A).bind fun x11=>(if [91].length+x11.length≤2*Ci then some ([91]++x11)else none).bind fun x12=>(if x12.length+[93,58].length≤2*Ci then some (x12++[93,58])else none).bind fun x13=>(if x13.length+x6.length≤2*Ci then some (x13++x6)else none).bind fun x14=>some x14 else (NI a0.A).bind fun x16=>(if x16.length+[58].length≤2*Ci then some (x16++[58])else none).bind fun x17=>(if x17.length+x6.length≤2*Ci then some (x17++x6)else none).bind fun x18=>some x18
def W2(a:BG [Aw]):BE tb MM [Aw] [Au] a:=Ad<|Aj (B3 (t:=Aw) 1 r_ r_ Af) fun _=>Ah (Ay EN)<|Ag<|Ad<|An (A4 (t:=Aw) (u:=Aw) Af r_ r_ (Ap _) r_ r_) fun x1=>a7 (AI Kq (.one Af)) fun x2=>Ai (Df Af) fun x3=>Ac<|ap Af (Ad<|Ah (Ay EN)<|Ac<|a6 (.one (A7 r_))) (av<|Ag<|Ah (AA Af)<|An (A4 (t:=Aw) (u:=tv) Af r_ r_ Ep r_ r_) fun x4=>Ai (E8 (I:=tw) (J:=d4) r_ Af) fun x5=>a7 (AI H7 (.one Af)) fun x6=>Ab r_<|Ag<|Ad<|Ah (AA Af)<|An (A4 (t:=Aw) (u:=Ao) Af r_ r_ FK r_ r_) fun x7=>a7 (AI Jh (.one Af)) fun x8=>Ai (A8 r_ Af AS) fun x9=>Ac<|ap Af (Ad<|Ah (AA Af)<|An (A4 (t:=Aw) (u:=Ao) Af r_ r_ FK r_ r_) fun x10=>a7 (AI Re (.one Af)) fun x11=>a7 (MA EN Af) fun x12=>a7 (MA Af EN) fun x13=>Ab r_<|a7 (MA Af Af) fun x14=>Ab r_<|Ac<|a6 (.one (A7 r_))) (av<|Ag<|Ah (AA Af)<|An (A4 (t:=Aw) (u:=Ao) Af r_ r_ FK r_ r_) fun x15=>a7 (AI Re (.one Af)) fun x16=>a7 (MA Af EN) fun x17=>Ab r_<|a7 (MA Af Af) fun x18=>Ab r_<|Ac<|a6 (.one (A7 r_))))
theorem Yb:Spec tb IK [Aw] [Au] (fun a=>LT a):=
 Spec.of bC r_ r_ r_ W2
def Jx(a0:Aq):Option (AP×Bool):=(LT a0.End).bind fun x2=>(ER a0.End).bind fun x4=>some (x2,x4)
def W8(a:BG [Ae]):BE tb MS [Ae] [Au,du] a:=Ad<|Aj (B3 (t:=Ae) 1 r_ r_ Af) fun _=>Ah (Ay EN)<|Ah (Ay DT)<|Ag<|Ah (AA Af)<|An (A4 (t:=Ae) (u:=Aw) Af r_ r_ Gl r_ r_) fun x1=>a7 (AI Yb (.one Af)) fun x2=>Ah (AA Af)<|An (A4 (t:=Ae) (u:=Aw) Af r_ r_ Gl r_ r_) fun x3=>a7 (AI Kq (.one Af)) fun x4=>Ab r_<|Ab r_<|Ac<|a6 (.cons (A7 r_)<| .one (A7 r_))
theorem Qk:Spec tb DK [Ae] [Au,du] (fun a=>Jx a):=
 Spec.of bJ r_ r_ r_ W8
def Vh(a0:Aq):Option Aq:=let x3:={a0 with End:=(⟨Ao.z,0⟩:AJ)};some x3
def W7(a:BG [Ae]):BE tb MR [Ae] [Ae] a:=Ad<|Aj (B3 (t:=Ae) 1 r_ r_ Af) fun _=>Aj (Bj (t:=Ae) 2 r_ r_) fun x1=>Ag<|Ai (Ch r_ r_ (.nil _)) fun x2=>Ah (AA Af)<|Aj (Bc Af Af r_ r_ Gl r_) fun x3=>Ag<|An (A4 (t:=Ae) (u:=Ae) Af r_ r_ (Ap _) r_ r_) fun x4=>Aj (Bc Af Af r_ r_ (Ap _) r_) fun x5=>Ac<|a6 (.one (BO r_ r_ r_ (Ap _) r_ r_))
theorem Yd:Spec tb DJ [Ae] [Ae] (fun a=>Vh a):=
 Spec.of bI r_ r_ r_ W7
def RB(a0:AG):Option Av:=WO (H4 a0) fun x2 _=>WO (RC a0 x2) fun x3 _=>some x3.1
def dY(a:BG [Ao]):BE tb RT [Ao] [Al] a:=Ad<|Aj (B3 (t:=Ao) 1 r_ r_ Af) fun _=>Aj (Bj (t:=Al) 2 r_ r_) fun x1=>Ag<|gv 2<|Kh r_ (A4 (t:=Ao) (u:=Ao) Af r_ r_ (Ap _) r_ r_)<|Kh r_ (A4 (t:=Ao) (u:=Ao) Af r_ r_ (Ap _) r_ r_)<|OA r_ (AI Jh (.one Af)) fun x2 hx2=>OA r_ (B4 Rd (.cons Af<| .one Af)) fun x3 hx3=>Ax r_ (Ay (Cq r_))<|Ca r_ (AU Af r_) fun x4=>Ca r_ (AU Af r_) fun x5=>Kg r_ (fun _=> .cons (EG.at (b:=x3) (B4 Rd (.cons Af<| .one Af)) hx3) (Cq r_) ⟨show T.Uni Al from(dr (ce (dr (ce BN (fm FM))) BN)),show T.Uni tv from BN,trivial⟩ (.cons (EG.at (b:=x2) (AI Jh (.one Af)) hx2) (Cq r_) (show T.Uni tv from BN) (.cons (A4 (t:=Ao) (u:=Ao) Af r_ r_ (Ap _) r_ r_) (Cq r_) (dr (ce BN (fm FM))) (.cons (A4 (t:=Ao) (u:=Ao) Af r_ r_ (Ap _) r_ r_) (Cq r_) (dr (ce BN (fm FM))) (.nil))))) (.nil) (Bj (t:=Al) 3 r_ r_) fun x6=>Kg r_ (fun _=> .nil) (.nil) (Bc Af Af r_ r_ (Ap _) r_) fun x7=>Ax r_ (Ay (Cq r_))<|BC<|Ag<|An (A4 (t:=Al) (u:=Al) Af r_ r_ (Ap _) r_ r_) fun x8=>Aj (Bc Af Af r_ r_ (Ap _) r_) fun x9=>Ac<|a6 (.one (BO r_ r_ r_ (Ap _) r_ r_))
theorem jT:Spec tb Ma [Ao] [Al] (fun a=>RB a):=
 Spec.of rN r_ r_ r_ dY
def Oj(a0:AP):Option (Av×Int):=(Fc a0 (47:UInt8)).bind fun x2=>(O6 x2.1).bind fun x6=>if(!decide (x6.2=0))=true then some ((⟨Ao.z,0⟩:Av),x6.2) else if(!x2.2.2)=true then (RB x6.1).bind fun x16=>some (x16,0) else (H4 x6.1).bind fun x19=>(G2 x2.2.1 (Cw x19)).bind fun x21=>if(!decide (x21.2=0))=true then some ((⟨Ao.z,0⟩:Av),x21.2) else (RC x6.1 (tx tz (x21.1.toNat:Int))).bind fun x29=>some (x29.1,x29.2)
def eA(a:BG [Au]):BE tb RV [Au] [Al,tv] a:=Ad<|Aj (Bj (t:=Al) 2 r_ r_) fun x1=>Ah (Ay AS)<|Ag<|Ab r_<|a7 (B4 I8 (.cons Af<| .one (UF 47 r_))) fun x2=>Ab r_<|An (AU Af r_) fun x3=>An (AU Af r_) fun x4=>An (AU Af r_) fun x5=>Ab r_<|Ab r_<|Ab r_<|Ag<|Ab r_<|a7 (B4 UY (.one Af)) fun x6=>Ab r_<|An (AU Af r_) fun x7=>An (AU Af r_) fun x8=>Aj (Bj (t:=Ao) 7 r_ r_) fun x9=>Aj (Bc Af Af r_ r_ (Ap _) r_) fun x10=>Ab r_<|Ag<|AF<|Ad<|Ab r_<|Ai (A8 r_ Af AS) fun x11=>Ab r_<|Ac<|ap Af (Ad<|Ai (Ch r_ r_ (.nil _)) fun x12=>Ab r_<|Aj (Bc Af Af r_ r_ (Ap _) r_) fun x13=>Ab r_<|Ac<|a6 (.cons (BO r_ r_ r_ (Ap _) r_ r_)<| .one (A7 r_))) (Ad<|Ab r_<|Ai (Df Af) fun x14=>Ab r_<|Ac<|ap Af (Ad<|An (A4 (t:=Ao) (u:=Ao) Af r_ r_ (Ap _) r_ r_) fun x15=>a7 (AI jT (.one Af)) fun x16=>Aj (Bc Af Af r_ r_ (Ap _) r_) fun x17=>Ah (Ay AS)<|Ac<|a6 (.cons (BO r_ r_ r_ (Ap _) r_ r_)<| .one (A7 r_))) (av<|AX<|Ag<|Ab r_<|An (A4 (t:=Ao) (u:=Ao) Af r_ r_ (Ap _) r_ r_) fun x18=>a7 (AI Jh (.one Af)) fun x19=>Ai (E8 (I:=tw) (J:=d4) r_ Af) fun x20=>a7 (B4 J3 (.cons Af<| .one Af)) fun x21=>Ab r_<|An (AU Af r_) fun x22=>An (AU Af r_) fun x23=>Ab r_<|Ab r_<|Ag<|Ad<|Ab r_<|Ai (A8 r_ Af AS) fun x24=>Ac<|ap Af (Ad<|Ai (Ch r_ r_ (.nil _)) fun x25=>Ab r_<|Aj (Bc Af Af r_ r_ (Ap _) r_) fun x26=>Ab r_<|Ac<|a6 (.cons (BO r_ r_ r_ (Ap _) r_ r_)<| .one (A7 r_))) (av<|Ag<|An (A4 (t:=Ao) (u:=Ao) Af r_ r_ (Ap _) r_ r_) fun x27=>Ab r_<|Ai (E8 (I:=d4) (J:=tw) r_ Af) fun x28=>
 a7 (B4 Rd (.cons Af<| .one Af)) fun x29=>An (AU Af r_) fun x30=>An (AU Af r_) fun x31=>Aj (Bc Af Af r_ r_ (Ap _) r_) fun x32=>Ab r_<|Ac<|a6 (.cons (BO r_ r_ r_ (Ap _) r_ r_)<| .one (A7 r_)))))
theorem jU:Spec tb Mb [Au] [Al,tv] (fun a=>Oj a):=
 Spec.of rP r_ r_ r_ eA
def Uw(a0:Av):Option AP:=(JT a0).bind fun x2=>if(!x2)=true then some [] else (NI a0.A).bind fun x5=>(if x5.length+[47].length≤2*Ci then some (x5++[47])else none).bind fun x6=>(Ed (Cw a0.Bits)).bind fun x9=>(if x6.length+x9.length≤2*Ci then some (x6++x9)else none).bind fun x10=>some x10
def kH(a:BG [Al]):BE tb TL [Al] [Au] a:=Ad<|Aj (B3 (t:=Al) 1 r_ r_ Af) fun _=>Ah (Ay EN)<|Ag<|Ad<|An (A4 (t:=Al) (u:=Al) Af r_ r_ (Ap _) r_ r_) fun x1=>a7 (AI P3 (.one Af)) fun x2=>Ai (Df Af) fun x3=>Ac<|ap Af (Ad<|Ah (Ay EN)<|Ac<|a6 (.one (A7 r_))) (av<|Ag<|Ah (AA Af)<|An (A4 (t:=Al) (u:=Ao) Af r_ r_ Cl r_ r_) fun x4=>a7 (AI Re (.one Af)) fun x5=>a7 (MA Af EN) fun x6=>Ah (AA Af)<|An (A4 (t:=Al) (u:=tv) Af r_ r_ C9 r_ r_) fun x7=>Ai (E8 (I:=tw) (J:=d4) r_ Af) fun x8=>a7 (AI H7 (.one Af)) fun x9=>a7 (MA Af Af) fun x10=>Ab r_<|Ac<|a6 (.one (A7 r_)))
theorem pM:Spec tb Nv [Al] [Au] (fun a=>Uw a):=
 Spec.of wH r_ r_ r_ kH
def HB(a0:Aq):Option (AP×Bool):=(Uw a0.P).bind fun x2=>(JT a0.P).bind fun x4=>some (x2,x4)
def UD(a:BG [Ae]):BE tb KV [Ae] [Au,du] a:=Ad<|Aj (B3 (t:=Ae) 1 r_ r_ Af) fun _=>Ah (Ay EN)<|Ah (Ay DT)<|Ag<|Ah (AA Af)<|An (A4 (t:=Ae) (u:=Al) Af r_ r_ HP r_ r_) fun x1=>a7 (AI pM (.one Af)) fun x2=>Ah (AA Af)<|An (A4 (t:=Ae) (u:=Al) Af r_ r_ HP r_ r_) fun x3=>a7 (AI P3 (.one Af)) fun x4=>Ab r_<|Ab r_<|Ac<|a6 (.cons (A7 r_)<| .one (A7 r_))
theorem NR:Spec tb Di [Ae] [Au,du] (fun a=>HB a):=
 Spec.of Xq r_ r_ r_ UD
def So(a0:Aq):Option Aq:=let x3:={a0 with P:=(⟨Ao.z,0⟩:Av)};some x3
def UC(a:BG [Ae]):BE tb KU [Ae] [Ae] a:=Ad<|Aj (B3 (t:=Ae) 1 r_ r_ Af) fun _=>Aj (Bj (t:=Ae) 2 r_ r_) fun x1=>Ag<|Ai (Ch r_ r_ (.nil _)) fun x2=>Ah (AA Af)<|Aj (Bc Af Af r_ r_ HP r_) fun x3=>Ag<|An (A4 (t:=Ae) (u:=Ae) Af r_ r_ (Ap _) r_ r_) fun x4=>Aj (Bc Af Af r_ r_ (Ap _) r_) fun x5=>Ac<|a6 (.one (BO r_ r_ r_ (Ap _) r_ r_))
theorem Vv:Spec tb Dh [Ae] [Ae] (fun a=>So a):=
 Spec.of Xp r_ r_ r_ UC
def Sn(a0:Aq):Option Aq:=some ({a0 with N:=(0:UInt64)})
def UB(a:BG [Ae]):BE tb KT [Ae] [Ae] a:=Ad<|Aj (B3 (t:=Ae) 1 r_ r_ Af) fun _=>Aj (Bj (t:=Ae) 2 r_ r_) fun x1=>Ag<|Ah (AA Af)<|Aj (Bc Af (Cm 0 r_) r_ r_ BT r_) fun x2=>Ag<|An (A4 (t:=Ae) (u:=Ae) Af r_ r_ (Ap _) r_ r_) fun x3=>Aj (Bc Af Af r_ r_ (Ap _) r_) fun x4=>Ac<|a6 (.one (BO r_ r_ r_ (Ap _) r_ r_))
theorem Vu:Spec tb Bo [Ae] [Ae] (fun a=>Sn a):=
 Spec.of Xn r_ r_ r_ UB
def R5(a0:Aq):Option (AP×Bool):=some ([116,114,117,101],true)
def Yn(a:BG [Ae]):BE tb Oy [Ae] [Au,du] a:=Ad<|Aj (B3 (t:=Ae) 1 r_ r_ Af) fun _=>Ah (Ay EN)<|Ah (Ay DT)<|Ag<|Ah (Ay EN)<|Ah (Ay DT)<|Ac<|a6 (.cons (A7 r_)<| .one (A7 r_))
theorem Sg:Spec tb Eu [Ae] [Au,du] (fun a=>R5 a):=
 Spec.of gQ r_ r_ r_ Yn
def Xh(a0:Aq):Option Aq:=some a0
def Ym(a:BG [Ae]):BE tb Ox [Ae] [Ae] a:=Ad<|Aj (B3 (t:=Ae) 1 r_ r_ Af) fun _=>Aj (Bj (t:=Ae) 2 r_ r_) fun x1=>Ag<|An (A4 (t:=Ae) (u:=Ae) Af r_ r_ (Ap _) r_ r_) fun x2=>Aj (Bc Af Af r_ r_ (Ap _) r_) fun x3=>Ac<|a6 (.one (BO r_ r_ r_ (Ap _) r_ r_))
theorem ZZ:Spec tb Et [Ae] [Ae] (fun a=>Xh a):=
 Spec.of gP r_ r_ r_ Ym
def Kd(a0:Aq):Option Bool:=(Iv a0.Word).bind fun x2=>if(decide (x2=[]))=true then some false else ((fun(k12:Bool→Option _)=>if(decide (a0.Word=1))=true then k12 (decide (a0.Word=1)) else if(decide (a0.Word=5))=true then k12 (decide (a0.Word=5)) else k12 (decide (a0.Word=8))) fun p11=>if p11=true then (some ():Option Unit).bind (fun(p13:Unit)=>some (.inl (()))) else if(decide (a0.Word=9))=true then (some ():Option Unit).bind (fun(p15:Unit)=>some (.inr (.inl (())))) else if(decide (a0.Word=12))=true then (some ():Option Unit).bind (fun(p17:Unit)=>some (.inr (.inr (.inl (()))))) else (fun(k20:Bool→Option _)=>if(decide (a0.Word=2))=true then k20 (decide (a0.Word=2)) else k20 (decide (a0.Word=10))) fun p19=>if p19=true then (some ():Option Unit).bind (fun(p21:Unit)=>some (.inr (.inr (.inr (.inl (((65535:UInt64),(0:UInt64)))))))) else if(decide (a0.Word=3))=true then (some ():Option Unit).bind (fun(p23:Unit)=>some (.inr (.inr (.inr (.inl (((4294967295:UInt64),(0:UInt64)))))))) else if(decide (a0.Word=13))=true then (some ():Option Unit).bind (fun(p25:Unit)=>some (.inr (.inr (.inr (.inl (((1:UInt64),(1:UInt64)))))))) else (fun(k28:Bool→Option _)=>if(decide (a0.Word=14))=true then k28 (decide (a0.Word=14)) else k28 (decide (a0.Word=15))) fun p27=>if p27=true then (some ():Option Unit).bind (fun(p29:Unit)=>some (.inr (.inr (.inr (.inl (((18446744073709551615:UInt64),(0:UInt64)))))))) else if(decide (a0.Word=16))=true then (some ():Option Unit).bind (fun(p31:Unit)=>some (.inr (.inr (.inr (.inl (((20:UInt64),(0:UInt64))))))))
 else (some ():Option Unit).bind (fun(p32:Unit)=>some (.inr (.inr (.inr (.inr (())))))):Option (Unit⊕(Unit⊕(Unit⊕((UInt64×UInt64)⊕Unit))))).bind (bd (fun(p5:Unit)=>(Jw a0).bind fun x38=>(fun(k41:Bool→Option _)=>if x38.2=true then (Vg a0).bind fun x44=>let x45:=(⟨a0.Word,(aw 32 bi).z,0,Aw.z,Al.z⟩:Aq);k41 (Iw D1 x44 x45) else k41 false) fun x42=>some x42) (bd (fun(p6:Unit)=>(Jx a0).bind fun x48=>(fun(k51:Bool→Option _)=>if x48.2=true then (Vh a0).bind fun x54=>let x55:=(⟨a0.Word,(aw 32 bi).z,0,Aw.z,Al.z⟩:Aq);k51 (Iw D1 x54 x55) else k51 false) fun x52=>some x52) (bd (fun(p7:Unit)=>(HB a0).bind fun x58=>(fun(k61:Bool→Option _)=>if x58.2=true then (So a0).bind fun x64=>let x65:=(⟨a0.Word,(aw 32 bi).z,0,Aw.z,Al.z⟩:Aq);k61 (Iw D1 x64 x65) else k61 false) fun x62=>some x62) (bd (fun(p8:(UInt64×UInt64))=>((Ed a0.N).bind fun x70=>(Cr (decide ((p8.2.toNat:Int)≤(a0.N.toNat:Int))) (some (decide ((a0.N.toNat:Int)≤(p8.1.toNat:Int))))).bind fun x77=>some (x70,x77):Option (AP×Bool)).bind (fun(p68:(AP×Bool))=>(fun(k80:Bool→Option _)=>if p68.2=true then (Sn a0).bind fun x83=>let x84:=(⟨a0.Word,(aw 32 bi).z,0,Aw.z,Al.z⟩:Aq);k80 (Iw D1 x83 x84) else k80 false) fun x81=>some x81)) (fun(p9:Unit)=>(R5 a0).bind fun x87=>(fun(k90:Bool→Option _)=>if x87.2=true then (Xh a0).bind fun x93=>let x94:=(⟨a0.Word,(aw 32 bi).z,0,Aw.z,Al.z⟩:Aq);k90 (Iw D1 x93 x94) else k90 false) fun x91=>some x91)))))
def aP(a:BG [Ae]):BE tb Qa [Ae] [du] a:=Ad<|Aj (B3 (t:=Ae) 1 r_ r_ Af) fun _=>Ah (Ay DT)<|Ag<|Ad<|Ah (AA Af)<|An (A4 (t:=Ae) (u:=tv) Af r_ r_ AK r_ r_) fun x1=>a7 (AI HF (.one Af)) fun x2=>Ai (M9 Af EN) fun x3=>Ac<|ap Af (Ad<|Ah (Ay DT)<|Ac<|a6 (.one (A7 r_))) (av<|Ag<|Ah (AA Af)<|An (A4 (t:=Ae) (u:=tv) Af r_ r_ AK r_ r_) fun x4=>fw (τ:=(Unit⊕(Unit⊕(Unit⊕((UInt64×UInt64)⊕Unit))))) (φs:=[.val tv x4]) (n:=1) (L:=[(1, .cp 1 0)]) (Γr:=(bd (fun p5=>⟨[Ih],[uf a,B9,S4,S1,Sz]⟩) (bd (fun p6=>⟨[Ih],[uf a,B9,Sy,Sx,Sw]⟩) (bd (fun p7=>⟨[Ih],[uf a,B9,Sv,Su,St]⟩) (bd (fun p8=>⟨[Ll],[uf a,(3, .cells [(1, .val bx p8.1)]),(1002, .cells [(1, .val bx p8.2)]),B9,E0,Ps,Pr,Ez,Ey,Ew,Ev]⟩) (fun p9=>⟨[Ih],[uf a,B9,Sr,Sq,Sp]⟩)))))) 2000000 (bd (fun p5=>⟨[en_49,(1, .cp 1 0)],[uf a,S4,S1,Sz]⟩) (bd (fun p6=>⟨[en_49,(1, .cp 1 0)],[uf a,Sy,Sx,Sw]⟩) (bd (fun p7=>⟨[en_49,(1, .cp 1 0)],[uf a,Sv,Su,St]⟩) (bd (fun p8=>⟨[(12, .aggk [3600280,3600281,3600282]),(1, .cp 1 0)],[uf a,(3, .cells [(1, .val bx p8.1)]),(1002, .cells [(1, .val bx p8.2)]),E0,Ps,Pr,Ez,Ey,Ew,Ev]⟩) (fun p9=>⟨[en_49,(1, .cp 1 0)],[uf a,Sr,Sq,Sp]⟩))))) ME r_ r_ r_ (Cd r_) (.cons (Fy Af)<| .nil) sB r_ (
 Ad<|Aj (BX 2 _ Io r_ r_) fun _=>Ag<|Ad<|Ab r_<|Ac<|AF<|Ad<|Ad<|Ai (A8 r_ Af AS) fun x10=>Ab r_<|Ac<|J2 (τ:=Bool) (fun p11=>⟨[(2, .cp 2 0),(3, .val tv x4),(4, .val du p11)],[uf a,Jy,B9]⟩) (fun p11=>Ac<|ap Af (Ad<|fw (τ:=Unit) (φs:=[]) (n:=1) (L:=[(2, .cp 2 0)]) (Γr:=(fun p13=>⟨[Ih],[uf a,Jy,B9,Xt,S4,S1,Sz]⟩)) 2100000 (fun p13=>⟨[en_9,(2, .cp 2 0)],[uf a,Jy,B9,S4,S1,Sz]⟩) PI r_ r_ r_ (Cd r_) (.nil) sB r_ (Ad<|Aj (BX 0 _ Io r_ r_) fun _=>Ag<|Bx (EH (φs:=[.fnv (.func EC) [] [], .fnv (.func DI) [] [], .fnv (.func DH) [] []]) 3600040 (.cons Fk<| .cons Fk<| .cons Fk<| .nil) r_ r_ sB (js:=[3600040,3600041,3600042]) r_)<|Aj (Ct Af Af r_ r_ r_ r_) fun _=>Ac<|AL () (.cons (C6 r_ r_ r_ r_)<| .nil) sB) (fun p13=>AM sB r_ (.one r_) sB sB) (.one fun p13=>Aj (Ct Af Af r_ r_ r_ r_) fun _=>Ac<|AL (.inl (())) (.cons (C6 r_ r_ r_ r_)<| .nil) sB)) (Ad<|Ai (A8 r_ Af AS) fun x14=>Ab r_<|Ac<|ap Af (Ad<|fw (τ:=Unit) (φs:=[]) (n:=1) (L:=[(2, .cp 2 0)]) (Γr:=(fun p15=>⟨[Ih],[uf a,Jy,B9,Xt,Sy,Sx,Sw]⟩)) 2100000 (fun p15=>⟨[en_17,(2, .cp 2 0)],[uf a,Jy,B9,Sy,Sx,Sw]⟩) PJ r_ r_ r_ (Cd r_) (.nil) sB r_ (Ad<|Aj (BX 0 _ Io r_ r_) fun _=>Ag<|Bx (EH (φs:=[.fnv (.func ED) [] [], .fnv (.func DK) [] [], .fnv (.func DJ) [] []]) 3600040 (.cons Fk<| .cons Fk<| .cons Fk<| .nil) r_ r_ sB (js:=[3600040,3600041,3600042]) r_)<|Aj (Ct Af Af r_ r_ r_ r_) fun _=>Ac<|AL () (.cons (C6 r_ r_ r_ r_)<| .nil) sB) (fun p15=>AM sB r_ (.one r_) sB sB) (.one fun p15=>
 Aj (Ct Af Af r_ r_ r_ r_) fun _=>Ac<|AL (.inr (.inl (()))) (.cons (C6 r_ r_ r_ r_)<| .nil) sB)) (Ad<|Ai (A8 r_ Af AS) fun x16=>Ab r_<|Ac<|ap Af (Ad<|fw (τ:=Unit) (φs:=[]) (n:=1) (L:=[(2, .cp 2 0)]) (Γr:=(fun p17=>⟨[Ih],[uf a,Jy,B9,Xt,Sv,Su,St]⟩)) 2100000 (fun p17=>⟨[en_21,(2, .cp 2 0)],[uf a,Jy,B9,Sv,Su,St]⟩) MF r_ r_ r_ (Cd r_) (.nil) sB r_ (Ad<|Aj (BX 0 _ Io r_ r_) fun _=>Ag<|Bx (EH (φs:=[.fnv (.func DC) [] [], .fnv (.func Di) [] [], .fnv (.func Dh) [] []]) 3600040 (.cons Fk<| .cons Fk<| .cons Fk<| .nil) r_ r_ sB (js:=[3600040,3600041,3600042]) r_)<|Aj (Ct Af Af r_ r_ r_ r_) fun _=>Ac<|AL () (.cons (C6 r_ r_ r_ r_)<| .nil) sB) (fun p17=>AM sB r_ (.one r_) sB sB) (.one fun p17=>Aj (Ct Af Af r_ r_ r_ r_) fun _=>Ac<|AL (.inr (.inr (.inl (())))) (.cons (C6 r_ r_ r_ r_)<| .nil) sB)) (Ad<|Ad<|Ai (A8 r_ Af AS) fun x18=>Ab r_<|Ac<|J2 (τ:=Bool) (fun p19=>⟨[(2, .cp 2 0),(3, .val tv x4),(15, .val du p19)],[uf a,Jy,B9]⟩) (fun p19=>Ac<|ap Af (Ad<|fw (τ:=Unit) (φs:=[.val bx (0:UInt64), .val bx (65535:UInt64)]) (n:=1) (L:=[(2, .cp 2 0)]) (Γr:=(fun p21=>⟨[Ll],[uf a,Jy,oD,ZL,B9,Xt,E0,Ps,Pr,Ez,Ey,Ew,Ev]⟩)) 2100000 (fun p21=>⟨[en_25,(2, .cp 2 0)],[uf a,Jy,oD,ZL,B9,E0,Ps,Pr,Ez,Ey,Ew,Ev]⟩) Cc r_ r_ r_ (Cd r_) (.cons (Fy (Cm 0 r_))<| .cons (Fy (Cm 65535 r_))<| .nil) sB r_ (Ad<|Aj (B3 (t:=bx) 1002 r_ r_ Af) fun _=>Aj (B3 (t:=bx) 3 r_ r_ Af) fun _=>
 Aj (BX 4 _ Io r_ r_) fun _=>Ag<|Bx (FX (φs:=[]) (ψs:=[.cp 3 0, .cp 1002 0]) 3600200 (.nil) (.cons Af<| .cons Af<| .nil) r_ sB (js:=[]) (ks:=[3600200,3600201]) r_ r_)<|Bx (FX (φs:=[]) (ψs:=[.cp 1002 0, .cp 3 0]) 3600240 (.nil) (.cons Af<| .cons Af<| .nil) r_ sB (js:=[]) (ks:=[3600240,3600241]) r_ r_)<|Bx (EH (φs:=[.fnv (.func Bt) [] [3600200,3600201], .fnv (.func Bs) [] [3600240,3600241], .fnv (.func Bo) [] []]) 3600280 (.cons Af<| .cons Af<| .cons Fk<| .nil) r_ r_ sB (js:=[3600280,3600281,3600282]) r_)<|Aj (Ct Af Af r_ r_ r_ r_) fun _=>Ac<|AL () (.cons (C6 r_ r_ r_ r_)<| .nil) sB) (fun p21=>AM sB r_ (.one r_) sB sB) (.one fun p21=>Aj (Ct Af Af r_ r_ r_ r_) fun _=>Ac<|AL (.inr (.inr (.inr (.inl (((65535:UInt64),(0:UInt64))))))) (.cons (C6 r_ r_ r_ r_)<| .nil) sB)) (Ad<|Ai (A8 r_ Af AS) fun x22=>Ab r_<|Ac<|ap Af (Ad<|fw (τ:=Unit) (φs:=[.val bx (0:UInt64), .val bx (4294967295:UInt64)]) (n:=1) (L:=[(2, .cp 2 0)]) (Γr:=(fun p23=>⟨[Ll],[uf a,Jy,oC,ZL,B9,Xt,E0,Ps,Pr,Ez,Ey,Ew,Ev]⟩)) 2100000 (fun p23=>⟨[en_36,(2, .cp 2 0)],[uf a,Jy,oC,ZL,B9,E0,Ps,Pr,Ez,Ey,Ew,Ev]⟩) Cc r_ r_ r_ (Cd r_) (.cons (Fy (Cm 0 r_))<| .cons (Fy (Cm 4294967295 r_))<| .nil) sB r_ (Ad<|Aj (B3 (t:=bx) 1002 r_ r_ Af) fun _=>Aj (B3 (t:=bx) 3 r_ r_ Af) fun _=>Aj (BX 4 _ Io r_ r_) fun _=>Ag<|Bx (FX (φs:=[]) (ψs:=[.cp 3 0, .cp 1002 0]) 3600200 (.nil) (.cons Af<| .cons Af<| .nil) r_ sB (js:=[]) (ks:=[3600200,3600201]) r_ r_)<|Bx (FX (φs:=[]) (ψs:=[.cp 1002 0, .cp 3 0]) 3600240 (.nil) (.cons Af<| .cons Af<| .nil) r_ sB (js:=[]) (ks:=[3600240,3600241]) r_ r_)<|
 Bx (EH (φs:=[.fnv (.func Bt) [] [3600200,3600201], .fnv (.func Bs) [] [3600240,3600241], .fnv (.func Bo) [] []]) 3600280 (.cons Af<| .cons Af<| .cons Fk<| .nil) r_ r_ sB (js:=[3600280,3600281,3600282]) r_)<|Aj (Ct Af Af r_ r_ r_ r_) fun _=>Ac<|AL () (.cons (C6 r_ r_ r_ r_)<| .nil) sB) (fun p23=>AM sB r_ (.one r_) sB sB) (.one fun p23=>Aj (Ct Af Af r_ r_ r_ r_) fun _=>Ac<|AL (.inr (.inr (.inr (.inl (((4294967295:UInt64),(0:UInt64))))))) (.cons (C6 r_ r_ r_ r_)<| .nil) sB)) (Ad<|Ai (A8 r_ Af AS) fun x24=>Ab r_<|Ac<|ap Af (Ad<|fw (τ:=Unit) (φs:=[.val bx (1:UInt64), .val bx (1:UInt64)]) (n:=1) (L:=[(2, .cp 2 0)]) (Γr:=(fun p25=>⟨[Ll],[uf a,Jy,oB,en_40,B9,Xt,E0,Ps,Pr,Ez,Ey,Ew,Ev]⟩)) 2100000 (fun p25=>⟨[en_38,(2, .cp 2 0)],[uf a,Jy,oB,en_40,B9,E0,Ps,Pr,Ez,Ey,Ew,Ev]⟩) Cc r_ r_ r_ (Cd r_) (.cons (Fy (Cm 1 r_))<| .cons (Fy (Cm 1 r_))<| .nil) sB r_ (Ad<|Aj (B3 (t:=bx) 1002 r_ r_ Af) fun _=>Aj (B3 (t:=bx) 3 r_ r_ Af) fun _=>Aj (BX 4 _ Io r_ r_) fun _=>Ag<|Bx (FX (φs:=[]) (ψs:=[.cp 3 0, .cp 1002 0]) 3600200 (.nil) (.cons Af<| .cons Af<| .nil) r_ sB (js:=[]) (ks:=[3600200,3600201]) r_ r_)<|Bx (FX (φs:=[]) (ψs:=[.cp 1002 0, .cp 3 0]) 3600240 (.nil) (.cons Af<| .cons Af<| .nil) r_ sB (js:=[]) (ks:=[3600240,3600241]) r_ r_)<|Bx (EH (φs:=[.fnv (.func Bt) [] [3600200,3600201], .fnv (.func Bs) [] [3600240,3600241], .fnv (.func Bo) [] []]) 3600280 (.cons Af<| .cons Af<| .cons Fk<| .nil) r_ r_ sB (js:=[3600280,3600281,3600282]) r_)<|
 Aj (Ct Af Af r_ r_ r_ r_) fun _=>Ac<|AL () (.cons (C6 r_ r_ r_ r_)<| .nil) sB) (fun p25=>AM sB r_ (.one r_) sB sB) (.one fun p25=>Aj (Ct Af Af r_ r_ r_ r_) fun _=>Ac<|AL (.inr (.inr (.inr (.inl (((1:UInt64),(1:UInt64))))))) (.cons (C6 r_ r_ r_ r_)<| .nil) sB)) (Ad<|Ad<|Ai (A8 r_ Af AS) fun x26=>Ab r_<|Ac<|J2 (τ:=Bool) (fun p27=>⟨[(2, .cp 2 0),(3, .val tv x4),(25, .val du p27)],[uf a,Jy,B9]⟩) (fun p27=>Ac<|ap Af (Ad<|fw (τ:=Unit) (φs:=[.val bx (0:UInt64), .val bx (18446744073709551615:UInt64)]) (n:=1) (L:=[(2, .cp 2 0)]) (Γr:=(fun p29=>⟨[Ll],[uf a,Jy,oA,ZL,B9,Xt,E0,Ps,Pr,Ez,Ey,Ew,Ev]⟩)) 2100000 (fun p29=>⟨[en_41,(2, .cp 2 0)],[uf a,Jy,oA,ZL,B9,E0,Ps,Pr,Ez,Ey,Ew,Ev]⟩) Cc r_ r_ r_ (Cd r_) (.cons (Fy (Cm 0 r_))<| .cons (Fy (Cm 18446744073709551615 r_))<| .nil) sB r_ (Ad<|Aj (B3 (t:=bx) 1002 r_ r_ Af) fun _=>Aj (B3 (t:=bx) 3 r_ r_ Af) fun _=>Aj (BX 4 _ Io r_ r_) fun _=>Ag<|Bx (FX (φs:=[]) (ψs:=[.cp 3 0, .cp 1002 0]) 3600200 (.nil) (.cons Af<| .cons Af<| .nil) r_ sB (js:=[]) (ks:=[3600200,3600201]) r_ r_)<|Bx (FX (φs:=[]) (ψs:=[.cp 1002 0, .cp 3 0]) 3600240 (.nil) (.cons Af<| .cons Af<| .nil) r_ sB (js:=[]) (ks:=[3600240,3600241]) r_ r_)<|Bx (EH (φs:=[.fnv (.func Bt) [] [3600200,3600201], .fnv (.func Bs) [] [3600240,3600241], .fnv (.func Bo) [] []]) 3600280 (.cons Af<| .cons Af<| .cons Fk<| .nil) r_ r_ sB (js:=[3600280,3600281,3600282]) r_)<|Aj (Ct Af Af r_ r_ r_ r_) fun _=>Ac<|AL () (.cons (C6 r_ r_ r_ r_)<| .nil) sB) (fun p29=>AM sB r_ (.one r_) sB sB) (.one fun p29=>
 Aj (Ct Af Af r_ r_ r_ r_) fun _=>Ac<|AL (.inr (.inr (.inr (.inl (((18446744073709551615:UInt64),(0:UInt64))))))) (.cons (C6 r_ r_ r_ r_)<| .nil) sB)) (Ad<|Ai (A8 r_ Af AS) fun x30=>Ab r_<|Ac<|ap Af (Ad<|fw (τ:=Unit) (φs:=[.val bx (0:UInt64), .val bx (20:UInt64)]) (n:=1) (L:=[(2, .cp 2 0)]) (Γr:=(fun p31=>⟨[Ll],[uf a,Jy,nZ,ZL,B9,Xt,E0,Ps,Pr,Ez,Ey,Ew,Ev]⟩)) 2100000 (fun p31=>⟨[en_43,(2, .cp 2 0)],[uf a,Jy,nZ,ZL,B9,E0,Ps,Pr,Ez,Ey,Ew,Ev]⟩) Cc r_ r_ r_ (Cd r_) (.cons (Fy (Cm 0 r_))<| .cons (Fy (Cm 20 r_))<| .nil) sB r_ (Ad<|Aj (B3 (t:=bx) 1002 r_ r_ Af) fun _=>Aj (B3 (t:=bx) 3 r_ r_ Af) fun _=>Aj (BX 4 _ Io r_ r_) fun _=>Ag<|Bx (FX (φs:=[]) (ψs:=[.cp 3 0, .cp 1002 0]) 3600200 (.nil) (.cons Af<| .cons Af<| .nil) r_ sB (js:=[]) (ks:=[3600200,3600201]) r_ r_)<|Bx (FX (φs:=[]) (ψs:=[.cp 1002 0, .cp 3 0]) 3600240 (.nil) (.cons Af<| .cons Af<| .nil) r_ sB (js:=[]) (ks:=[3600240,3600241]) r_ r_)<|Bx (EH (φs:=[.fnv (.func Bt) [] [3600200,3600201], .fnv (.func Bs) [] [3600240,3600241], .fnv (.func Bo) [] []]) 3600280 (.cons Af<| .cons Af<| .cons Fk<| .nil) r_ r_ sB (js:=[3600280,3600281,3600282]) r_)<|Aj (Ct Af Af r_ r_ r_ r_) fun _=>Ac<|AL () (.cons (C6 r_ r_ r_ r_)<| .nil) sB) (fun p31=>AM sB r_ (.one r_) sB sB) (.one fun p31=>Aj (Ct Af Af r_ r_ r_ r_) fun _=>Ac<|AL (.inr (.inr (.inr (.inl (((20:UInt64),(0:UInt64))))))) (.cons (C6 r_ r_ r_ r_)<| .nil) sB)) (av<|AX<|Ag<|fw (τ:=Unit) (φs:=[]) (n:=1) (L:=[(2, .cp 2 0)]) (Γr:=(fun p32=>⟨[Ih],[uf a,Jy,B9,Xt,Sr,Sq,Sp]⟩)) 2100000 (fun p32=>⟨[en_45,(2, .cp 2 0)],[uf a,Jy,B9,Sr,Sq,Sp]⟩) R7 r_ r_ r_ (Cd r_) (.nil) sB r_ (
 Ad<|Aj (BX 0 _ Io r_ r_) fun _=>Ag<|Bx (EH (φs:=[.fnv (.func Fm) [] [], .fnv (.func Eu) [] [], .fnv (.func Et) [] []]) 3600040 (.cons Fk<| .cons Fk<| .cons Fk<| .nil) r_ r_ sB (js:=[3600040,3600041,3600042]) r_)<|Aj (Ct Af Af r_ r_ r_ r_) fun _=>Ac<|AL () (.cons (C6 r_ r_ r_ r_)<| .nil) sB) (fun p32=>AM sB r_ (.one r_) sB sB) (.one fun p32=>Aj (Ct Af Af r_ r_ r_ r_) fun _=>Ac<|AL (.inr (.inr (.inr (.inr (()))))) (.cons (C6 r_ r_ r_ r_)<| .nil) sB)))) fun k28=>ap Af (av<|ji (k28 x26) sB) (Ai (A8 r_ Af AS) fun x33=>Ab r_<|ji (k28 x33) sB))))) fun k20=>ap Af (av<|ji (k20 x18) sB) (Ai (A8 r_ Af AS) fun x34=>Ab r_<|ji (k20 x34) sB))))) fun k12=>ap Af (av<|ji (k12 x10) sB) (Ad<|Ai (A8 r_ Af AS) fun x35=>Ab r_<|Ac<|ap Af (av<|ji (k12 x35) sB) (Ai (A8 r_ Af AS) fun x36=>Ab r_<|ji (k12 x36) sB))) (JG (fun p5=>AM sB r_ (.one r_) sB sB) (JG (fun p6=>AM sB r_ (.one r_) sB sB) (JG (fun p7=>AM sB r_ (.one r_) sB sB) (JG (fun p8=>AM sB r_ (.one r_) sB sB) (fun p9=>AM sB r_ (.one r_) sB sB))))) (.alt (.one fun p5=>Aj (BX 3 _ Io r_ r_) fun _=>Aj (Ct Af Af r_ r_ r_ r_) fun _=>Ag<|Ah (AA Af)<|Ah (L6 Af r_ r_ r_)<|An (A4 (t:=Ae) (u:=Ae) Af r_ r_ (Ap _) r_ r_) fun x37=>a7 (Mq Qj (Ej (Qx r_ r_) r_) (.one (Fy Af))) fun x38=>Ab r_<|An (AU Af r_) fun x39=>An (AU Af r_) fun x40=>Ab r_<|Ab r_<|Ag<|gv 1<|Ax r_ (Ay (Cq r_))<|Ax r_ (Ay (Cq r_))<|QP ⟨[],[]⟩ 8 r_ r_ r_ (fun _=>sB) r_ r_ (fun x42=>Ax r_ (Ay (Cq r_))<|BC<|Ac<|a6 (.one (A7 r_))) fun k41=>
 Ax r_ (AA Af)<|Ax r_ (L6 Af r_ r_ r_)<|Ca r_ (A4 (t:=Ae) (u:=Ae) Af r_ r_ (Ap _) r_ r_) fun x43=>m5 r_ (fun _=> .nil) (.new (c:=⟨false,1,1,0,0,tv,AK.get a⟩) r_ (OE AK r_ r_ r_ r_ r_)<| .nil) (Tu Yc (Ej (Qx r_ r_) r_) (.one (Fy Af))) fun x44=>Ax r_ (AA Af)<|DE 0 r_ r_ r_ r_ r_ BN (A4 (t:=Ae) (u:=tv) Af r_ r_ AK r_ r_)<|BW r_ (Ch r_ r_ (.cons AK r_ Af<| .nil _)) fun x45=>BW r_ (Q6 D1 r_ r_ Af Af) fun x46=>O9 (Γ0:=⟨[],[]⟩) r_ Af sB r_ k41) (.alt (.one fun p6=>Aj (BX 3 _ Io r_ r_) fun _=>Aj (Ct Af Af r_ r_ r_ r_) fun _=>Ag<|Ah (AA Af)<|Ah (L6 Af r_ r_ r_)<|An (A4 (t:=Ae) (u:=Ae) Af r_ r_ (Ap _) r_ r_) fun x47=>a7 (Mq Qk (Ej (Qx r_ r_) r_) (.one (Fy Af))) fun x48=>Ab r_<|An (AU Af r_) fun x49=>An (AU Af r_) fun x50=>Ab r_<|Ab r_<|Ag<|gv 1<|Ax r_ (Ay (Cq r_))<|Ax r_ (Ay (Cq r_))<|QP ⟨[],[]⟩ 8 r_ r_ r_ (fun _=>sB) r_ r_ (fun x52=>Ax r_ (Ay (Cq r_))<|BC<|Ac<|a6 (.one (A7 r_))) fun k51=>Ax r_ (AA Af)<|Ax r_ (L6 Af r_ r_ r_)<|Ca r_ (A4 (t:=Ae) (u:=Ae) Af r_ r_ (Ap _) r_ r_) fun x53=>m5 r_ (fun _=> .nil) (.new (c:=⟨false,1,1,0,0,tv,AK.get a⟩) r_ (OE AK r_ r_ r_ r_ r_)<| .nil) (Tu Yd (Ej (Qx r_ r_) r_) (.one (Fy Af))) fun x54=>Ax r_ (AA Af)<|DE 0 r_ r_ r_ r_ r_ BN (A4 (t:=Ae) (u:=tv) Af r_ r_ AK r_ r_)<|BW r_ (Ch r_ r_ (.cons AK r_ Af<| .nil _)) fun x55=>BW r_ (Q6 D1 r_ r_ Af Af) fun x56=>O9 (Γ0:=⟨[],[]⟩) r_ Af sB r_ k51) (.alt (.one fun p7=>Aj (BX 3 _ Io r_ r_) fun _=>Aj (Ct Af Af r_ r_ r_ r_) fun _=>Ag<|Ah (AA Af)<|Ah (L6 Af r_ r_ r_)<|
 An (A4 (t:=Ae) (u:=Ae) Af r_ r_ (Ap _) r_ r_) fun x57=>a7 (Mq NR (Ej (Qx r_ r_) r_) (.one (Fy Af))) fun x58=>Ab r_<|An (AU Af r_) fun x59=>An (AU Af r_) fun x60=>Ab r_<|Ab r_<|Ag<|gv 1<|Ax r_ (Ay (Cq r_))<|Ax r_ (Ay (Cq r_))<|QP ⟨[],[]⟩ 8 r_ r_ r_ (fun _=>sB) r_ r_ (fun x62=>Ax r_ (Ay (Cq r_))<|BC<|Ac<|a6 (.one (A7 r_))) fun k61=>Ax r_ (AA Af)<|Ax r_ (L6 Af r_ r_ r_)<|Ca r_ (A4 (t:=Ae) (u:=Ae) Af r_ r_ (Ap _) r_ r_) fun x63=>m5 r_ (fun _=> .nil) (.new (c:=⟨false,1,1,0,0,tv,AK.get a⟩) r_ (OE AK r_ r_ r_ r_ r_)<| .nil) (Tu Vv (Ej (Qx r_ r_) r_) (.one (Fy Af))) fun x64=>Ax r_ (AA Af)<|DE 0 r_ r_ r_ r_ r_ BN (A4 (t:=Ae) (u:=tv) Af r_ r_ AK r_ r_)<|BW r_ (Ch r_ r_ (.cons AK r_ Af<| .nil _)) fun x65=>BW r_ (Q6 D1 r_ r_ Af Af) fun x66=>O9 (Γ0:=⟨[],[]⟩) r_ Af sB r_ k61) (.alt (.one fun p8=>Aj (BX 1003 _ Io r_ r_) fun _=>Aj (Ct Af Af r_ r_ r_ r_) fun _=>Ag<|Ah (AA Af)<|Ah (L6 Af r_ r_ r_)<|An (A4 (t:=Ae) (u:=Ae) Af r_ r_ (Ap _) r_ r_) fun x67=>fw (τ:=(AP×Bool)) (φs:=[.val Ae x67, .cp 1002 0, .cp 3 0]) (n:=2) (L:=[(1, .cp 1 0),(3, .cp 1003 0)]) (Γr:=(fun p68=>⟨[(0, .val Au p68.1),(1, .val du p68.2)],[uf a,(3, .cells [(1, .val bx p8.1)]),(1002, .cells [(1, .val bx p8.2)]),en_51,B9,(2000003, .ghost (.cp 1003 0)),E0,Ps,Pr,Ez,Ey,Ew,Ev]⟩)) 2000000 (fun p68=>⟨[(17, .tup [⟨Au,p68.1⟩,⟨du,p68.2⟩]),(1, .cp 1 0),(3, .cp 1003 0)],[uf a,(3, .cells [(1, .val bx p8.1)]),(1002, .cells [(1, .val bx p8.2)]),en_51,E0,Ps,Pr,Ez,Ey,Ew,Ev]⟩) Pq r_ r_ r_ (Ej (Qx r_ r_) r_) (.cons (Fy Af)<| .cons (s_k r_)<| .cons (s_k r_)<| .nil) sB r_ (
 Ad<|Aj (B3 (t:=Ae) 2003 r_ r_ Af) fun _=>Ah (Ay EN)<|Ah (Ay DT)<|Ag<|Ah (AA Af)<|An (A4 (t:=Ae) (u:=bx) Af r_ r_ BT r_ r_) fun x69=>a7 (AI H7 (.one Af)) fun x70=>Ah (AA Af)<|An (A4 (t:=Ae) (u:=bx) Af r_ r_ BT r_ r_) fun x71=>An (A4 (t:=bx) (u:=bx) Af r_ r_ (Ap _) r_ r_) fun x72=>Ai (DZ (I:=d4) r_ Af Af) fun x73=>Ab r_<|gu 4 r_ r_ r_ (AR (AA Af)<|Bw (A4 (t:=Ae) (u:=bx) Af r_ r_ BT r_ r_) fun x74=>Bw (A4 (t:=bx) (u:=bx) Af r_ r_ (Ap _) r_ r_) fun x75=>AZ (DZ (I:=d4) r_ Af Af) fun x76=>dh Af) fun x77=>Ab r_<|Ab r_<|Ac<|AL (x70,x77) (.cons (IB r_)<| .cons (IB r_)<| .nil) sB) (fun p68=>AM sB r_ (.vals r_ (by intro i p h;match i,h with|0,h=>(cases h;rfl)|1,h=>(cases h;rfl)|(_+2),h=>simp at h)) trivial sB) (.one fun p68=>Ab r_<|An (AU Af r_) fun x78=>An (AU Af r_) fun x79=>Ab r_<|Ab r_<|Ag<|gv 1<|Ax r_ (Ay (Cq r_))<|Ax r_ (Ay (Cq r_))<|QP ⟨[],[]⟩ 8 r_ r_ r_ (fun _=>sB) r_ r_ (fun x81=>Ax r_ (Ay (Cq r_))<|BC<|Ac<|a6 (.one (A7 r_))) fun k80=>Ax r_ (AA Af)<|Ax r_ (L6 Af r_ r_ r_)<|Ca r_ (A4 (t:=Ae) (u:=Ae) Af r_ r_ (Ap _) r_ r_) fun x82=>m5 r_ (fun _=> .nil) (.new (c:=⟨false,1,1,0,0,tv,AK.get a⟩) r_ (OE AK r_ r_ r_ r_ r_)<| .nil) (Tu Vu (Ej (Qx r_ r_) r_) (.one (Fy Af))) fun x83=>Ax r_ (AA Af)<|DE 0 r_ r_ r_ r_ r_ BN (A4 (t:=Ae) (u:=tv) Af r_ r_ AK r_ r_)<|BW r_ (Ch r_ r_ (.cons AK r_ Af<| .nil _)) fun x84=>BW r_ (Q6 D1 r_ r_ Af Af) fun x85=>O9 (Γ0:=⟨[],[]⟩) r_ Af sB r_ k80)) (.one fun p9=>Aj (BX 3 _ Io r_ r_) fun _=>
 Aj (Ct Af Af r_ r_ r_ r_) fun _=>Ag<|Ah (AA Af)<|Ah (L6 Af r_ r_ r_)<|An (A4 (t:=Ae) (u:=Ae) Af r_ r_ (Ap _) r_ r_) fun x86=>a7 (Mq Sg (Ej (Qx r_ r_) r_) (.one (Fy Af))) fun x87=>Ab r_<|An (AU Af r_) fun x88=>An (AU Af r_) fun x89=>Ab r_<|Ab r_<|Ag<|gv 1<|Ax r_ (Ay (Cq r_))<|Ax r_ (Ay (Cq r_))<|QP ⟨[],[]⟩ 8 r_ r_ r_ (fun _=>sB) r_ r_ (fun x91=>Ax r_ (Ay (Cq r_))<|BC<|Ac<|a6 (.one (A7 r_))) fun k90=>Ax r_ (AA Af)<|Ax r_ (L6 Af r_ r_ r_)<|Ca r_ (A4 (t:=Ae) (u:=Ae) Af r_ r_ (Ap _) r_ r_) fun x92=>m5 r_ (fun _=> .nil) (.new (c:=⟨false,1,1,0,0,tv,AK.get a⟩) r_ (OE AK r_ r_ r_ r_ r_)<| .nil) (Tu ZZ (Ej (Qx r_ r_) r_) (.one (Fy Af))) fun x93=>Ax r_ (AA Af)<|DE 0 r_ r_ r_ r_ r_ BN (A4 (t:=Ae) (u:=tv) Af r_ r_ AK r_ r_)<|BW r_ (Ch r_ r_ (.cons AK r_ Af<| .nil _)) fun x94=>BW r_ (Q6 D1 r_ r_ Af Af) fun x95=>O9 (Γ0:=⟨[],[]⟩) r_ Af sB r_ k90))))))
theorem dM:Spec tb KE [Ae] [du] (fun a=>Kd a):=
 Spec.of lF r_ r_ r_ aP
def Of(a0:Aq):Option (At×Int):=(Kd a0).bind fun x3=>if(!x3)=true then some ((⟨[],[]⟩:At),1) else ((fun(k15:Bool→Option _)=>if(decide (a0.Word=1))=true then k15 (decide (a0.Word=1)) else if(decide (a0.Word=5))=true then k15 (decide (a0.Word=5)) else k15 (decide (a0.Word=8))) fun p14=>if p14=true then (some ():Option Unit).bind (fun(p16:Unit)=>some (.inl (()))) else if(decide (a0.Word=9))=true then (some ():Option Unit).bind (fun(p18:Unit)=>some (.inr (.inl (())))) else if(decide (a0.Word=12))=true then (some ():Option Unit).bind (fun(p20:Unit)=>some (.inr (.inr (.inl (()))))) else (fun(k23:Bool→Option _)=>if(decide (a0.Word=2))=true then k23 (decide (a0.Word=2)) else k23 (decide (a0.Word=10))) fun p22=>if p22=true then (some ():Option Unit).bind (fun(p24:Unit)=>some (.inr (.inr (.inr (.inl (((65535:UInt64),(0:UInt64)))))))) else if(decide (a0.Word=3))=true then (some ():Option Unit).bind (fun(p26:Unit)=>some (.inr (.inr (.inr (.inl (((4294967295:UInt64),(0:UInt64)))))))) else if(decide (a0.Word=13))=true then (some ():Option Unit).bind (fun(p28:Unit)=>some (.inr (.inr (.inr (.inl (((1:UInt64),(1:UInt64)))))))) else (fun(k31:Bool→Option _)=>if(decide (a0.Word=14))=true then k31 (decide (a0.Word=14)) else k31 (decide (a0.Word=15))) fun p30=>if p30=true then (some ():Option Unit).bind (fun(p32:Unit)=>some (.inr (.inr (.inr (.inl (((18446744073709551615:UInt64),(0:UInt64)))))))) else if(decide (a0.Word=16))=true then (some ():Option Unit).bind (fun(p34:Unit)=>some (.inr (.inr (.inr (.inl (((20:UInt64),(0:UInt64))))))))
 else (some ():Option Unit).bind (fun(p35:Unit)=>some (.inr (.inr (.inr (.inr (())))))):Option (Unit⊕(Unit⊕(Unit⊕((UInt64×UInt64)⊕Unit))))).bind (bd (fun(p8:Unit)=>(Jw a0).bind fun x40=>(Iv a0.Word).bind fun x44=>some ((⟨x44,x40.1⟩:At),0)) (bd (fun(p9:Unit)=>(Jx a0).bind fun x47=>(Iv a0.Word).bind fun x51=>some ((⟨x51,x47.1⟩:At),0)) (bd (fun(p10:Unit)=>(HB a0).bind fun x54=>(Iv a0.Word).bind fun x58=>some ((⟨x58,x54.1⟩:At),0)) (bd (fun(p11:(UInt64×UInt64))=>((Ed a0.N).bind fun x63=>let x66:=decide ((p11.2.toNat:Int)≤(a0.N.toNat:Int));(Cr x66 (let x69:=decide ((a0.N.toNat:Int)≤(p11.1.toNat:Int));some x69)).bind fun x70=>some (x63,x70)).bind (fun(p61:(AP×Bool))=>(Iv a0.Word).bind fun x74=>some ((⟨x74,p61.1⟩:At),0))) (fun(p12:Unit)=>(R5 a0).bind fun x77=>(Iv a0.Word).bind fun x81=>some ((⟨x81,x77.1⟩:At),0))))))
def dV(a:BG [Ae]):BE tb RQ [Ae] [Ak,tv] a:=Ad<|Aj (B3 (t:=Ae) 1 r_ r_ Af) fun _=>Aj (Bj (t:=Ak) 2 r_ r_) fun x1=>Ah (Ay AS)<|Ag<|Ad<|An (A4 (t:=Ae) (u:=Ae) Af r_ r_ (Ap _) r_ r_) fun x2=>a7 (AI dM (.one Af)) fun x3=>Ai (Df Af) fun x4=>Ac<|ap Af (Ad<|Ai (Ch r_ r_ (.nil _)) fun x5=>Aj (Bc Af Af r_ r_ (Ap _) r_) fun x6=>Ah (Ay AS)<|Ac<|a6 (.cons (BO r_ r_ r_ (Ap _) r_ r_)<| .one (A7 r_))) (av<|Ag<|gv 2<|Ax r_ (AA Af)<|Ca r_ (A4 (t:=Ae) (u:=tv) Af r_ r_ AK r_ r_) fun x7=>oS (τ:=(Unit⊕(Unit⊕(Unit⊕((UInt64×UInt64)⊕Unit))))) (φs:=[.val tv x7]) (n:=1) (L:=[(1, .cp 1 0),(2, .cp 2 0)]) (Γr:=(bd (fun p8=>⟨[Ih],[uf a,uj x1,B9,CU,S4,S1,Sz]⟩) (bd (fun p9=>⟨[Ih],[uf a,uj x1,B9,CU,Sy,Sx,Sw]⟩) (bd (fun p10=>⟨[Ih],[uf a,uj x1,B9,CU,Sv,Su,St]⟩) (bd (fun p11=>⟨[Ll],[uf a,uj x1,(3, .cells [(1, .val bx p11.1)]),(2002, .cells [(1, .val bx p11.2)]),B9,CU,E0,Ig,Ie,Ez,Ey,Ew,Ev]⟩) (fun p12=>⟨[Ih],[uf a,uj x1,B9,CU,Sr,Sq,Sp]⟩)))))) r_ (.new (c:=⟨true,70,1,0,0,Ae,(Ap _).get a⟩) r_ (OE (Ap _) r_ r_ r_ r_ r_)<| .nil) 2000000 (bd (fun p8=>⟨[en_59,(1, .cp 1 0),(2, .cp 2 0)],[uf a,uj x1,S4,S1,Sz]⟩) (bd (fun p9=>⟨[en_59,(1, .cp 1 0),(2, .cp 2 0)],[uf a,uj x1,Sy,Sx,Sw]⟩) (bd (fun p10=>⟨[en_59,(1, .cp 1 0),(2, .cp 2 0)],[uf a,uj x1,Sv,Su,St]⟩) (bd (fun p11=>⟨[(13, .aggk [3600280,3600281,3600282]),(1, .cp 1 0),(2, .cp 2 0)],[uf a,uj x1,(3, .cells [(1, .val bx p11.1)]),(2002, .cells [(1, .val bx p11.2)]),E0,Ig,Ie,Ez,Ey,Ew,Ev]⟩) (fun p12=>⟨[en_59,(1, .cp 1 0),(2, .cp 2 0)],[uf a,uj x1,Sr,Sq,Sp]⟩))))) (fun _=> .nil) ME r_ r_ r_ (Cd r_) (.cons (Fy Af)<| .nil) sB r_ (
 Ad<|Aj (BX 1002 _ Io r_ r_) fun _=>Ag<|Ad<|Ab r_<|Ac<|AF<|Ad<|Ad<|Ai (A8 r_ Af AS) fun x13=>Ab r_<|Ac<|J2 (τ:=Bool) (fun p14=>⟨[(2, .cp 1002 0),(3, .val tv x7),(4, .val du p14)],[uf a,uj x1,DB,B9,CU]⟩) (fun p14=>Ac<|ap Af (Ad<|fw (τ:=Unit) (φs:=[]) (n:=1) (L:=[(2, .cp 1002 0)]) (Γr:=(fun p16=>⟨[Ih],[uf a,uj x1,DB,B9,CU,Lk,S4,S1,Sz]⟩)) 2100000 (fun p16=>⟨[en_9,(2, .cp 1002 0)],[uf a,uj x1,DB,B9,CU,S4,S1,Sz]⟩) PI r_ r_ r_ (Cd r_) (.nil) sB r_ (Ad<|Aj (BX 0 _ Io r_ r_) fun _=>Ag<|Bx (EH (φs:=[.fnv (.func EC) [] [], .fnv (.func DI) [] [], .fnv (.func DH) [] []]) 3600040 (.cons Fk<| .cons Fk<| .cons Fk<| .nil) r_ r_ sB (js:=[3600040,3600041,3600042]) r_)<|Aj (Ct Af Af r_ r_ r_ r_) fun _=>Ac<|AL () (.cons (C6 r_ r_ r_ r_)<| .nil) sB) (fun p16=>AM sB r_ (.one r_) sB sB) (.one fun p16=>Aj (Ct Af Af r_ r_ r_ r_) fun _=>Ac<|AL (.inl (())) (.cons (C6 r_ r_ r_ r_)<| .nil) sB)) (Ad<|Ai (A8 r_ Af AS) fun x17=>Ab r_<|Ac<|ap Af (Ad<|fw (τ:=Unit) (φs:=[]) (n:=1) (L:=[(2, .cp 1002 0)]) (Γr:=(fun p18=>⟨[Ih],[uf a,uj x1,DB,B9,CU,Lk,Sy,Sx,Sw]⟩)) 2100000 (fun p18=>⟨[en_17,(2, .cp 1002 0)],[uf a,uj x1,DB,B9,CU,Sy,Sx,Sw]⟩) PJ r_ r_ r_ (Cd r_) (.nil) sB r_ (Ad<|Aj (BX 0 _ Io r_ r_) fun _=>Ag<|Bx (EH (φs:=[.fnv (.func ED) [] [], .fnv (.func DK) [] [], .fnv (.func DJ) [] []]) 3600040 (.cons Fk<| .cons Fk<| .cons Fk<| .nil) r_ r_ sB (js:=[3600040,3600041,3600042]) r_)<|
 Aj (Ct Af Af r_ r_ r_ r_) fun _=>Ac<|AL () (.cons (C6 r_ r_ r_ r_)<| .nil) sB) (fun p18=>AM sB r_ (.one r_) sB sB) (.one fun p18=>Aj (Ct Af Af r_ r_ r_ r_) fun _=>Ac<|AL (.inr (.inl (()))) (.cons (C6 r_ r_ r_ r_)<| .nil) sB)) (Ad<|Ai (A8 r_ Af AS) fun x19=>Ab r_<|Ac<|ap Af (Ad<|fw (τ:=Unit) (φs:=[]) (n:=1) (L:=[(2, .cp 1002 0)]) (Γr:=(fun p20=>⟨[Ih],[uf a,uj x1,DB,B9,CU,Lk,Sv,Su,St]⟩)) 2100000 (fun p20=>⟨[en_21,(2, .cp 1002 0)],[uf a,uj x1,DB,B9,CU,Sv,Su,St]⟩) MF r_ r_ r_ (Cd r_) (.nil) sB r_ (Ad<|Aj (BX 0 _ Io r_ r_) fun _=>Ag<|Bx (EH (φs:=[.fnv (.func DC) [] [], .fnv (.func Di) [] [], .fnv (.func Dh) [] []]) 3600040 (.cons Fk<| .cons Fk<| .cons Fk<| .nil) r_ r_ sB (js:=[3600040,3600041,3600042]) r_)<|Aj (Ct Af Af r_ r_ r_ r_) fun _=>Ac<|AL () (.cons (C6 r_ r_ r_ r_)<| .nil) sB) (fun p20=>AM sB r_ (.one r_) sB sB) (.one fun p20=>Aj (Ct Af Af r_ r_ r_ r_) fun _=>Ac<|AL (.inr (.inr (.inl (())))) (.cons (C6 r_ r_ r_ r_)<| .nil) sB)) (Ad<|Ad<|Ai (A8 r_ Af AS) fun x21=>Ab r_<|Ac<|J2 (τ:=Bool) (fun p22=>⟨[(2, .cp 1002 0),(3, .val tv x7),(15, .val du p22)],[uf a,uj x1,DB,B9,CU]⟩) (fun p22=>Ac<|ap Af (Ad<|fw (τ:=Unit) (φs:=[.val bx (0:UInt64), .val bx (65535:UInt64)]) (n:=1) (L:=[(2, .cp 1002 0)]) (Γr:=(fun p24=>⟨[Ll],[uf a,uj x1,oD,DB,Na,B9,CU,Lk,E0,Ig,Ie,Ez,Ey,Ew,Ev]⟩)) 2100000 (fun p24=>⟨[en_25,(2, .cp 1002 0)],[uf a,uj x1,oD,DB,Na,B9,CU,E0,Ig,Ie,Ez,Ey,Ew,Ev]⟩) Cc r_ r_ r_ (Cd r_) (.cons (Fy (Cm 0 r_))<| .cons (Fy (Cm 65535 r_))<| .nil) sB r_ (
 Ad<|Aj (B3 (t:=bx) 2002 r_ r_ Af) fun _=>Aj (B3 (t:=bx) 3 r_ r_ Af) fun _=>Aj (BX 4 _ Io r_ r_) fun _=>Ag<|Bx (FX (φs:=[]) (ψs:=[.cp 3 0, .cp 2002 0]) 3600200 (.nil) (.cons Af<| .cons Af<| .nil) r_ sB (js:=[]) (ks:=[3600200,3600201]) r_ r_)<|Bx (FX (φs:=[]) (ψs:=[.cp 2002 0, .cp 3 0]) 3600240 (.nil) (.cons Af<| .cons Af<| .nil) r_ sB (js:=[]) (ks:=[3600240,3600241]) r_ r_)<|Bx (EH (φs:=[.fnv (.func Bt) [] [3600200,3600201], .fnv (.func Bs) [] [3600240,3600241], .fnv (.func Bo) [] []]) 3600280 (.cons Af<| .cons Af<| .cons Fk<| .nil) r_ r_ sB (js:=[3600280,3600281,3600282]) r_)<|Aj (Ct Af Af r_ r_ r_ r_) fun _=>Ac<|AL () (.cons (C6 r_ r_ r_ r_)<| .nil) sB) (fun p24=>AM sB r_ (.one r_) sB sB) (.one fun p24=>Aj (Ct Af Af r_ r_ r_ r_) fun _=>Ac<|AL (.inr (.inr (.inr (.inl (((65535:UInt64),(0:UInt64))))))) (.cons (C6 r_ r_ r_ r_)<| .nil) sB)) (Ad<|Ai (A8 r_ Af AS) fun x25=>Ab r_<|Ac<|ap Af (Ad<|fw (τ:=Unit) (φs:=[.val bx (0:UInt64), .val bx (4294967295:UInt64)]) (n:=1) (L:=[(2, .cp 1002 0)]) (Γr:=(fun p26=>⟨[Ll],[uf a,uj x1,oC,DB,Na,B9,CU,Lk,E0,Ig,Ie,Ez,Ey,Ew,Ev]⟩)) 2100000 (fun p26=>⟨[en_36,(2, .cp 1002 0)],[uf a,uj x1,oC,DB,Na,B9,CU,E0,Ig,Ie,Ez,Ey,Ew,Ev]⟩) Cc r_ r_ r_ (Cd r_) (.cons (Fy (Cm 0 r_))<| .cons (Fy (Cm 4294967295 r_))<| .nil) sB r_ (Ad<|Aj (B3 (t:=bx) 2002 r_ r_ Af) fun _=>Aj (B3 (t:=bx) 3 r_ r_ Af) fun _=>Aj (BX 4 _ Io r_ r_) fun _=>Ag<|Bx (FX (φs:=[]) (ψs:=[.cp 3 0, .cp 2002 0]) 3600200 (.nil) (.cons Af<| .cons Af<| .nil) r_ sB (js:=[]) (ks:=[3600200,3600201]) r_ r_)<|
 Bx (FX (φs:=[]) (ψs:=[.cp 2002 0, .cp 3 0]) 3600240 (.nil) (.cons Af<| .cons Af<| .nil) r_ sB (js:=[]) (ks:=[3600240,3600241]) r_ r_)<|Bx (EH (φs:=[.fnv (.func Bt) [] [3600200,3600201], .fnv (.func Bs) [] [3600240,3600241], .fnv (.func Bo) [] []]) 3600280 (.cons Af<| .cons Af<| .cons Fk<| .nil) r_ r_ sB (js:=[3600280,3600281,3600282]) r_)<|Aj (Ct Af Af r_ r_ r_ r_) fun _=>Ac<|AL () (.cons (C6 r_ r_ r_ r_)<| .nil) sB) (fun p26=>AM sB r_ (.one r_) sB sB) (.one fun p26=>Aj (Ct Af Af r_ r_ r_ r_) fun _=>Ac<|AL (.inr (.inr (.inr (.inl (((4294967295:UInt64),(0:UInt64))))))) (.cons (C6 r_ r_ r_ r_)<| .nil) sB)) (Ad<|Ai (A8 r_ Af AS) fun x27=>Ab r_<|Ac<|ap Af (Ad<|fw (τ:=Unit) (φs:=[.val bx (1:UInt64), .val bx (1:UInt64)]) (n:=1) (L:=[(2, .cp 1002 0)]) (Γr:=(fun p28=>⟨[Ll],[uf a,uj x1,oB,DB,en_58,B9,CU,Lk,E0,Ig,Ie,Ez,Ey,Ew,Ev]⟩)) 2100000 (fun p28=>⟨[en_38,(2, .cp 1002 0)],[uf a,uj x1,oB,DB,en_58,B9,CU,E0,Ig,Ie,Ez,Ey,Ew,Ev]⟩) Cc r_ r_ r_ (Cd r_) (.cons (Fy (Cm 1 r_))<| .cons (Fy (Cm 1 r_))<| .nil) sB r_ (Ad<|Aj (B3 (t:=bx) 2002 r_ r_ Af) fun _=>Aj (B3 (t:=bx) 3 r_ r_ Af) fun _=>Aj (BX 4 _ Io r_ r_) fun _=>Ag<|Bx (FX (φs:=[]) (ψs:=[.cp 3 0, .cp 2002 0]) 3600200 (.nil) (.cons Af<| .cons Af<| .nil) r_ sB (js:=[]) (ks:=[3600200,3600201]) r_ r_)<|Bx (FX (φs:=[]) (ψs:=[.cp 2002 0, .cp 3 0]) 3600240 (.nil) (.cons Af<| .cons Af<| .nil) r_ sB (js:=[]) (ks:=[3600240,3600241]) r_ r_)<|
 Bx (EH (φs:=[.fnv (.func Bt) [] [3600200,3600201], .fnv (.func Bs) [] [3600240,3600241], .fnv (.func Bo) [] []]) 3600280 (.cons Af<| .cons Af<| .cons Fk<| .nil) r_ r_ sB (js:=[3600280,3600281,3600282]) r_)<|Aj (Ct Af Af r_ r_ r_ r_) fun _=>Ac<|AL () (.cons (C6 r_ r_ r_ r_)<| .nil) sB) (fun p28=>AM sB r_ (.one r_) sB sB) (.one fun p28=>Aj (Ct Af Af r_ r_ r_ r_) fun _=>Ac<|AL (.inr (.inr (.inr (.inl (((1:UInt64),(1:UInt64))))))) (.cons (C6 r_ r_ r_ r_)<| .nil) sB)) (Ad<|Ad<|Ai (A8 r_ Af AS) fun x29=>Ab r_<|Ac<|J2 (τ:=Bool) (fun p30=>⟨[(2, .cp 1002 0),(3, .val tv x7),(25, .val du p30)],[uf a,uj x1,DB,B9,CU]⟩) (fun p30=>Ac<|ap Af (Ad<|fw (τ:=Unit) (φs:=[.val bx (0:UInt64), .val bx (18446744073709551615:UInt64)]) (n:=1) (L:=[(2, .cp 1002 0)]) (Γr:=(fun p32=>⟨[Ll],[uf a,uj x1,oA,DB,Na,B9,CU,Lk,E0,Ig,Ie,Ez,Ey,Ew,Ev]⟩)) 2100000 (fun p32=>⟨[en_41,(2, .cp 1002 0)],[uf a,uj x1,oA,DB,Na,B9,CU,E0,Ig,Ie,Ez,Ey,Ew,Ev]⟩) Cc r_ r_ r_ (Cd r_) (.cons (Fy (Cm 0 r_))<| .cons (Fy (Cm 18446744073709551615 r_))<| .nil) sB r_ (Ad<|Aj (B3 (t:=bx) 2002 r_ r_ Af) fun _=>Aj (B3 (t:=bx) 3 r_ r_ Af) fun _=>Aj (BX 4 _ Io r_ r_) fun _=>Ag<|Bx (FX (φs:=[]) (ψs:=[.cp 3 0, .cp 2002 0]) 3600200 (.nil) (.cons Af<| .cons Af<| .nil) r_ sB (js:=[]) (ks:=[3600200,3600201]) r_ r_)<|Bx (FX (φs:=[]) (ψs:=[.cp 2002 0, .cp 3 0]) 3600240 (.nil) (.cons Af<| .cons Af<| .nil) r_ sB (js:=[]) (ks:=[3600240,3600241]) r_ r_)<|
 Bx (EH (φs:=[.fnv (.func Bt) [] [3600200,3600201], .fnv (.func Bs) [] [3600240,3600241], .fnv (.func Bo) [] []]) 3600280 (.cons Af<| .cons Af<| .cons Fk<| .nil) r_ r_ sB (js:=[3600280,3600281,3600282]) r_)<|Aj (Ct Af Af r_ r_ r_ r_) fun _=>Ac<|AL () (.cons (C6 r_ r_ r_ r_)<| .nil) sB) (fun p32=>AM sB r_ (.one r_) sB sB) (.one fun p32=>Aj (Ct Af Af r_ r_ r_ r_) fun _=>Ac<|AL (.inr (.inr (.inr (.inl (((18446744073709551615:UInt64),(0:UInt64))))))) (.cons (C6 r_ r_ r_ r_)<| .nil) sB)) (Ad<|Ai (A8 r_ Af AS) fun x33=>Ab r_<|Ac<|ap Af (Ad<|fw (τ:=Unit) (φs:=[.val bx (0:UInt64), .val bx (20:UInt64)]) (n:=1) (L:=[(2, .cp 1002 0)]) (Γr:=(fun p34=>⟨[Ll],[uf a,uj x1,nZ,DB,Na,B9,CU,Lk,E0,Ig,Ie,Ez,Ey,Ew,Ev]⟩)) 2100000 (fun p34=>⟨[en_43,(2, .cp 1002 0)],[uf a,uj x1,nZ,DB,Na,B9,CU,E0,Ig,Ie,Ez,Ey,Ew,Ev]⟩) Cc r_ r_ r_ (Cd r_) (.cons (Fy (Cm 0 r_))<| .cons (Fy (Cm 20 r_))<| .nil) sB r_ (Ad<|Aj (B3 (t:=bx) 2002 r_ r_ Af) fun _=>Aj (B3 (t:=bx) 3 r_ r_ Af) fun _=>Aj (BX 4 _ Io r_ r_) fun _=>Ag<|Bx (FX (φs:=[]) (ψs:=[.cp 3 0, .cp 2002 0]) 3600200 (.nil) (.cons Af<| .cons Af<| .nil) r_ sB (js:=[]) (ks:=[3600200,3600201]) r_ r_)<|Bx (FX (φs:=[]) (ψs:=[.cp 2002 0, .cp 3 0]) 3600240 (.nil) (.cons Af<| .cons Af<| .nil) r_ sB (js:=[]) (ks:=[3600240,3600241]) r_ r_)<|Bx (EH (φs:=[.fnv (.func Bt) [] [3600200,3600201], .fnv (.func Bs) [] [3600240,3600241], .fnv (.func Bo) [] []]) 3600280 (.cons Af<| .cons Af<| .cons Fk<| .nil) r_ r_ sB (js:=[3600280,3600281,3600282]) r_)<|
 Aj (Ct Af Af r_ r_ r_ r_) fun _=>Ac<|AL () (.cons (C6 r_ r_ r_ r_)<| .nil) sB) (fun p34=>AM sB r_ (.one r_) sB sB) (.one fun p34=>Aj (Ct Af Af r_ r_ r_ r_) fun _=>Ac<|AL (.inr (.inr (.inr (.inl (((20:UInt64),(0:UInt64))))))) (.cons (C6 r_ r_ r_ r_)<| .nil) sB)) (av<|AX<|Ag<|fw (τ:=Unit) (φs:=[]) (n:=1) (L:=[(2, .cp 1002 0)]) (Γr:=(fun p35=>⟨[Ih],[uf a,uj x1,DB,B9,CU,Lk,Sr,Sq,Sp]⟩)) 2100000 (fun p35=>⟨[en_45,(2, .cp 1002 0)],[uf a,uj x1,DB,B9,CU,Sr,Sq,Sp]⟩) R7 r_ r_ r_ (Cd r_) (.nil) sB r_ (Ad<|Aj (BX 0 _ Io r_ r_) fun _=>Ag<|Bx (EH (φs:=[.fnv (.func Fm) [] [], .fnv (.func Eu) [] [], .fnv (.func Et) [] []]) 3600040 (.cons Fk<| .cons Fk<| .cons Fk<| .nil) r_ r_ sB (js:=[3600040,3600041,3600042]) r_)<|Aj (Ct Af Af r_ r_ r_ r_) fun _=>Ac<|AL () (.cons (C6 r_ r_ r_ r_)<| .nil) sB) (fun p35=>AM sB r_ (.one r_) sB sB) (.one fun p35=>Aj (Ct Af Af r_ r_ r_ r_) fun _=>Ac<|AL (.inr (.inr (.inr (.inr (()))))) (.cons (C6 r_ r_ r_ r_)<| .nil) sB)))) fun k31=>ap Af (av<|ji (k31 x29) sB) (Ai (A8 r_ Af AS) fun x36=>Ab r_<|ji (k31 x36) sB))))) fun k23=>ap Af (av<|ji (k23 x21) sB) (Ai (A8 r_ Af AS) fun x37=>Ab r_<|ji (k23 x37) sB))))) fun k15=>ap Af (av<|ji (k15 x13) sB) (Ad<|Ai (A8 r_ Af AS) fun x38=>Ab r_<|Ac<|ap Af (av<|ji (k15 x38) sB) (Ai (A8 r_ Af AS) fun x39=>Ab r_<|ji (k15 x39) sB))) (JG (fun p8=>AM sB r_ (.one r_) sB sB) (JG (fun p9=>AM sB r_ (.one r_) sB sB) (JG (fun p10=>AM sB r_ (.one r_) sB sB) (JG (fun p11=>AM sB r_ (.one r_) sB sB) (fun p12=>AM sB r_ (.one r_) sB sB))))) (.alt (.one fun p8=>
 Ax r_ (PB (l:=[3600040]) (r:=[3600042]) Af r_ r_ r_ r_)<|DE 0 r_ r_ r_ r_ r_ (dr (ce BN (ce (fm FM) (ce TY (ce (dr (ce (dr (ce BN (fm FM))) BN)) (dr (ce (dr (ce BN (fm FM))) BN))))))) (A4 (t:=Ae) (u:=Ae) Af r_ r_ (Ap _) r_ r_)<|m5 r_ (fun _=> .nil) (.nil) (Mq Qj (Ej (Qx r_ r_) r_) (.one (Fy Af))) fun x40=>Ax r_ (Ay (Cq r_))<|Ca r_ (AU Af r_) fun x41=>Ca r_ (AU Af r_) fun x42=>Ax r_ (Ay (Cq r_))<|Ax r_ (Ay (Cq r_))<|BC<|Ag<|Ah (AA Af)<|An (A4 (t:=Ae) (u:=tv) Af r_ r_ AK r_ r_) fun x43=>a7 (AI HF (.one Af)) fun x44=>Ab r_<|Ai (Ch r_ r_ (.cons Ce r_ Af<| .cons Be r_ Af<| .nil _)) fun x45=>Aj (Bc Af Af r_ r_ (Ap _) r_) fun x46=>Ah (Ay AS)<|Ac<|a6 (.cons (BO r_ r_ r_ (Ap _) r_ r_)<| .one (A7 r_))) (.alt (.one fun p9=>Ax r_ (PB (l:=[3600040]) (r:=[3600042]) Af r_ r_ r_ r_)<|DE 0 r_ r_ r_ r_ r_ (dr (ce BN (ce (fm FM) (ce TY (ce (dr (ce (dr (ce BN (fm FM))) BN)) (dr (ce (dr (ce BN (fm FM))) BN))))))) (A4 (t:=Ae) (u:=Ae) Af r_ r_ (Ap _) r_ r_)<|m5 r_ (fun _=> .nil) (.nil) (Mq Qk (Ej (Qx r_ r_) r_) (.one (Fy Af))) fun x47=>Ax r_ (Ay (Cq r_))<|Ca r_ (AU Af r_) fun x48=>Ca r_ (AU Af r_) fun x49=>Ax r_ (Ay (Cq r_))<|Ax r_ (Ay (Cq r_))<|BC<|Ag<|Ah (AA Af)<|An (A4 (t:=Ae) (u:=tv) Af r_ r_ AK r_ r_) fun x50=>a7 (AI HF (.one Af)) fun x51=>
 Ab r_<|Ai (Ch r_ r_ (.cons Ce r_ Af<| .cons Be r_ Af<| .nil _)) fun x52=>Aj (Bc Af Af r_ r_ (Ap _) r_) fun x53=>Ah (Ay AS)<|Ac<|a6 (.cons (BO r_ r_ r_ (Ap _) r_ r_)<| .one (A7 r_))) (.alt (.one fun p10=>Ax r_ (PB (l:=[3600040]) (r:=[3600042]) Af r_ r_ r_ r_)<|DE 0 r_ r_ r_ r_ r_ (dr (ce BN (ce (fm FM) (ce TY (ce (dr (ce (dr (ce BN (fm FM))) BN)) (dr (ce (dr (ce BN (fm FM))) BN))))))) (A4 (t:=Ae) (u:=Ae) Af r_ r_ (Ap _) r_ r_)<|m5 r_ (fun _=> .nil) (.nil) (Mq NR (Ej (Qx r_ r_) r_) (.one (Fy Af))) fun x54=>Ax r_ (Ay (Cq r_))<|Ca r_ (AU Af r_) fun x55=>Ca r_ (AU Af r_) fun x56=>Ax r_ (Ay (Cq r_))<|Ax r_ (Ay (Cq r_))<|BC<|Ag<|Ah (AA Af)<|An (A4 (t:=Ae) (u:=tv) Af r_ r_ AK r_ r_) fun x57=>a7 (AI HF (.one Af)) fun x58=>Ab r_<|Ai (Ch r_ r_ (.cons Ce r_ Af<| .cons Be r_ Af<| .nil _)) fun x59=>Aj (Bc Af Af r_ r_ (Ap _) r_) fun x60=>Ah (Ay AS)<|Ac<|a6 (.cons (BO r_ r_ r_ (Ap _) r_ r_)<| .one (A7 r_))) (.alt (.one fun p11=>Ax r_ (PB (l:=[3600280]) (r:=[3600282]) Af r_ r_ r_ r_)<|DE 0 r_ r_ r_ r_ r_ (dr (ce BN (ce (fm FM) (ce TY (ce (dr (ce (dr (ce BN (fm FM))) BN)) (dr (ce (dr (ce BN (fm FM))) BN))))))) (A4 (t:=Ae) (u:=Ae) Af r_ r_ (Ap _) r_ r_)<|rn (τ:=(AP×Bool)) (φs:=[.val Ae ((Ap _).get a), .cp 2002 0, .cp 3 0]) (n:=2) (L:=[(1, .cp 1 0),(2, .cp 2 0)]) (Γr:=(fun p61=>⟨[(0, .val Au p61.1),(1, .val du p61.2)],[uf a,uj x1,B9,CU]⟩)) r_ (.nil) 2000000 (fun p61=>⟨[(16, .tup [⟨Au,p61.1⟩,⟨du,p61.2⟩]),(1, .cp 1 0),(2, .cp 2 0)],[uf a,uj x1]⟩) (fun _=> .nil) Pq r_ r_ r_ (Ej (Qx r_ r_) r_) (.cons (Fy Af)<| .cons (s_k r_)<| .cons (s_k r_)<| .nil) sB r_ (
 Ad<|Aj (B3 (t:=Ae) 1003 r_ r_ Af) fun _=>Ah (Ay EN)<|Ah (Ay DT)<|Ag<|Ah (AA Af)<|An (A4 (t:=Ae) (u:=bx) Af r_ r_ BT r_ r_) fun x62=>a7 (AI H7 (.one Af)) fun x63=>Ah (AA Af)<|An (A4 (t:=Ae) (u:=bx) Af r_ r_ BT r_ r_) fun x64=>An (A4 (t:=bx) (u:=bx) Af r_ r_ (Ap _) r_ r_) fun x65=>Ai (DZ (I:=d4) r_ Af Af) fun x66=>Ab r_<|gu 4 r_ r_ r_ (AR (AA Af)<|Bw (A4 (t:=Ae) (u:=bx) Af r_ r_ BT r_ r_) fun x67=>Bw (A4 (t:=bx) (u:=bx) Af r_ r_ (Ap _) r_ r_) fun x68=>AZ (DZ (I:=d4) r_ Af Af) fun x69=>dh Af) fun x70=>Ab r_<|Ab r_<|Ac<|AL (x63,x70) (.cons (IB r_)<| .cons (IB r_)<| .nil) sB) (fun p61=>AM sB r_ (.vals r_ (by intro i p h;match i,h with|0,h=>(cases h;rfl)|1,h=>(cases h;rfl)|(_+2),h=>simp at h)) trivial sB) fun p61=>Ax r_ (Ay (Cq r_))<|Ca r_ (AU Af r_) fun x71=>Ca r_ (AU Af r_) fun x72=>Ax r_ (Ay (Cq r_))<|Ax r_ (Ay (Cq r_))<|BC<|Ag<|Ah (AA Af)<|An (A4 (t:=Ae) (u:=tv) Af r_ r_ AK r_ r_) fun x73=>a7 (AI HF (.one Af)) fun x74=>Ab r_<|Ai (Ch r_ r_ (.cons Ce r_ Af<| .cons Be r_ Af<| .nil _)) fun x75=>Aj (Bc Af Af r_ r_ (Ap _) r_) fun x76=>Ah (Ay AS)<|Ac<|a6 (.cons (BO r_ r_ r_ (Ap _) r_ r_)<| .one (A7 r_))) (.one fun p12=>Ax r_ (PB (l:=[3600040]) (r:=[3600042]) Af r_ r_ r_ r_)<|DE 0 r_ r_ r_ r_ r_ (dr (ce BN (ce (fm FM) (ce TY (ce (dr (ce (dr (ce BN (fm FM))) BN)) (dr (ce (dr (ce BN (fm FM))) BN))))))) (A4 (t:=Ae) (u:=Ae) Af r_ r_ (Ap _) r_ r_)<|
 m5 r_ (fun _=> .nil) (.nil) (Mq Sg (Ej (Qx r_ r_) r_) (.one (Fy Af))) fun x77=>Ax r_ (Ay (Cq r_))<|Ca r_ (AU Af r_) fun x78=>Ca r_ (AU Af r_) fun x79=>Ax r_ (Ay (Cq r_))<|Ax r_ (Ay (Cq r_))<|BC<|Ag<|Ah (AA Af)<|An (A4 (t:=Ae) (u:=tv) Af r_ r_ AK r_ r_) fun x80=>a7 (AI HF (.one Af)) fun x81=>Ab r_<|Ai (Ch r_ r_ (.cons Ce r_ Af<| .cons Be r_ Af<| .nil _)) fun x82=>Aj (Bc Af Af r_ r_ (Ap _) r_) fun x83=>Ah (Ay AS)<|Ac<|a6 (.cons (BO r_ r_ r_ (Ap _) r_ r_)<| .one (A7 r_))))))))
theorem jR:Spec tb LY [Ae] [Ak,tv] (fun a=>Of a):=
 Spec.of rK r_ r_ r_ dV
def K3(a0:(GS Aq)):Option (GS At):=(iter (fun(s2:(Int×(GS At)))=>if(decide (s2.1<(a0.l.length:Int)))=true then (DN a0.l s2.1).bind fun x5=>(Of x5).bind fun x10=>(SS 32 s2.2 [x10.1]).bind fun x17=>some (.inl (tx tz (s2.1+1),x17)) else some (.inr (.inl s2.2))) (0, .nil)).bind (bd (fun(p3:(GS At))=>some p3) some)
def Yl(a:BG [(db Ae)]):BE tb Ow [(db Ae)] [(db Ak)] a:=Ad<|Ah (Ay (Fj (t:=Ak)))<|jj (born (n:=2) (j:=1002) r_ r_)<|Ag<|Ah (Ay (Fj (t:=Ak)))<|jj (born (n:=3) (j:=2002) r_ r_)<|Ag<|Ad<|Ab r_<|Ai (D5 Af) fun x1=>Ah (Ay AS)<|Ac<|AF<|dm (id:=0) (σ:=(Int×(GS At))) (τ:=(GS At)) (fun s2=>⟨[(3, .own 2002),(8, .val (db Ae) a),(9, .val tv x1),(10, .val tv s2.1)],[(2002, .row Ak s2.2)]⟩) (fun p3=>⟨[(3, .own 2002)],[(2002, .row Ak p3)]⟩) (0, .nil) sB (fun _=>r_) (fun s2=>Ad<|Ai (A8 r_ Af Af) fun x4=>Ag<|ap Af (av<|Ag<|AF<|Ad<|a7 (Gu r_ Af Af) fun x5=>An (IY r_ r_ Af) fun x6=>Aj (Bj (t:=Ae) 5 r_ r_) fun x7=>Aj (Bc Af Af r_ r_ (Ap _) r_) fun x8=>Ag<|An (A4 (t:=Ae) (u:=Ae) Af r_ r_ (Ap _) r_ r_) fun x9=>a7 (B4 jR (.one Af)) fun x10=>Ab r_<|An (AU Af r_) fun x11=>An (AU Af r_) fun x12=>Aj (Bj (t:=Ak) 6 r_ r_) fun x13=>Aj (Bc Af Af r_ r_ (Ap _) r_) fun x14=>Ab r_<|Ac<|Ab r_<|An (A4 (t:=Ak) (u:=Ak) Af r_ r_ (Ap _) r_ r_) fun x15=>Ai (Pb (t:=Ak) (n:=1) r_ r_ (.cons r_ Af<| .nil _)) fun x16=>B2 (OD r_ Af r_ (VB Af)) fun x17=>Ab r_<|AX<|Ac<|Ai (B8 (I:=tw) Af AS) fun x18=>Ab r_<|dl (x18,x17) sB) (Bi<|BF s2.2 sB)) (fun p3=>Bm<|Ag<|Ab r_<|Ab r_<|Ac<|gt 2002 r_ r_<|a6 (.one (A7 r_)))
theorem ZY:Spec tb JA [(db Ae)] [(db Ak)] (fun a=>K3 a):=
 Spec.of gO r_ r_ r_ Yl
def F0(a0:Int):Option Bool:=(Cr (decide (0≤a0)) (some (decide (a0<55296)))).bind fun x3=>if x3=true then some true else (Cr (decide (57343<a0)) (some (decide (a0≤1114111)))).bind fun x6=>if x6=true then some true else some false
def NS(a:BG [(am .i32)]):BE tb GC [(am .i32)] [du] a:=Ad<|Ah (Ay DT)<|Ag<|AF<|Ad<|Ab r_<|Ai (DZ (I:=(bj .i32)) r_ AS Af) fun x1=>Ab r_<|gu 2 r_ r_ r_ (AR (Ay (Cq r_))<|AZ (DZ (I:=(bj .i32)) r_ Af AS) fun x2=>dh Af) fun x3=>Ab r_<|Ac<|ap Af (Ad<|Ah (Ay DT)<|Ac<|a6 (.one (A7 r_))) (Ad<|Ab r_<|Ai (DZ (I:=(bj .i32)) r_ AS Af) fun x4=>Ab r_<|gu 2 r_ r_ r_ (AR (Ay (Cq r_))<|AZ (DZ (I:=(bj .i32)) r_ Af AS) fun x5=>dh Af) fun x6=>Ab r_<|Ac<|ap Af (Ad<|Ah (Ay DT)<|Ac<|a6 (.one (A7 r_))) (av<|AX<|Ag<|Ah (Ay DT)<|Ac<|a6 (.one (A7 r_))))
theorem OH:Spec tb E4 [(am .i32)] [du] (fun a=>F0 a):=
 Spec.of PF r_ r_ r_ NS
def Dv(a0:AP)(a1:Int):Option Int:=(Cr (decide (0≤a1)) (some (decide (a1<128)))).bind fun x3=>if x3=true then (DV a0 (ib.ofI a1)).bind fun x5=>some x5 else if(decide (a1=65533))=true then (iter (fun(s7:Nat)=>if s7<a0.length then let x9:=E2 a0 s7;if(decide (x9.1=65533))=true then (some ((s7:Nat):Int)).map fun r=> .inr (.inr r) else some (.inl (s7+x9.2)) else some (.inr (.inl ()))) 0).bind (bd (fun(p8:Unit)=>some (-1)) some) else (F0 a1).bind fun x13=>if(!x13)=true then some (-1) else let x17:=tx tz ((((jc a1).data.toList).length:Int)-1);(iter (fun(s18:Unit)=>if(decide (x17<(a0.length:Int)))=true then (DN a0 x17).bind fun x22=>(DN ((jc a1).data.toList) x17).bind fun x23=>(fun(k26:Int→Option _)=>if(!decide ((x22.toNat:Int)=(x23.toNat:Int)))=true then (IW a0 (some (tx tz (x17+1))) none).bind fun x39=>(DN ((jc a1).data.toList) x17).bind fun x40=>(DV x39 x40).bind fun x41=>if(decide (x41<0))=true then (some (-1)).map fun r=> .inr (.inr r) else let x44:=tx tz (x17+tx tz (x41+1));k26 x44 else k26 x17) fun p25=>(iter (fun(s27:Int)=>let x30:=decide (s27<(((jc a1).data.toList).length:Int));if x30=true then (DN a0 (tx tz (p25-s27))).bind fun x32=>(DN ((jc a1).data.toList) (tx tz (x17-s27))).bind fun x34=>if(!decide ((x32.toNat:Int)=(x34.toNat:Int)))=true then none else some (.inl (tx tz (s27+1))) else some (.inr (.inl ()))) 1).bind (bd (fun(p28:Unit)=>
 (some (tx tz (p25-x17))).map fun r=> .inr (.inr r)) some) else some (.inr (.inl ()))) ()).bind (bd (fun(p19:Unit)=>some (-1)) some)
def SF(a:BG [Au,(am .i32)]):BE tb IZ [Au,(am .i32)] [tv] a:=Ad<|Ah (Ay AS)<|Ac<|AF<|Ad<|Ab r_<|Ai (DZ (I:=(bj .i32)) r_ AS Af) fun x1=>Ab r_<|gu 2 r_ r_ r_ (AR (Ay (Cq r_))<|AZ (DZ (I:=(bj .i32)) r_ Af AS) fun x2=>dh Af) fun x3=>Ab r_<|Ac<|ap Af (Ad<|Ab r_<|Ab r_<|Ai (E8 (I:=(bj .i32)) (J:=ib) r_ Af) fun x4=>a7 (AI Gp (.cons Af<| .one Af)) fun x5=>Ab r_<|Ac<|a6 (.one (A7 r_))) (Ad<|Ab r_<|Ai (DZ (I:=(bj .i32)) r_ Af AS) fun x6=>Ab r_<|Ac<|ap Af (Ad<|Ad<|Ab r_<|Aj (M_rng 1175 r_ Af) fun _=>Ac<|AF<|dm (id:=9) (σ:=Nat) (τ:=Unit) (fun s7=>⟨[(175, .own 1175)],[(1175, .dom XP (a.1,s7))]⟩) (fun p8=>⟨[],[]⟩) 0 sB (fun _=>r_) (fun s7=>Ad<|tt Af r_ (fun x9=>Ah (AU Af r_)<|Ag<|QR Af<|av<|Ac<|AF<|Ad<|An (AU Af r_) fun x10=>An (AU Af r_) fun x11=>Ab r_<|Ab r_<|Ag<|Ab r_<|Ai (DZ (I:=(bj .i32)) r_ Af AS) fun x12=>Ac<|ap Af (Ad<|Ab r_<|Ab r_<|Ac<|Bq<|a6 (.one (A7 r_))) (av<|AX<|dl (s7+x9.2) sB)) (Ah (AU Af r_)<|Ag<|U2 Af<|Bi<|BF () sB)) (fun p8=>Bm<|Ag<|Ah (Ay AS)<|Ac<|a6 (.one (A7 r_)))) (Ad<|Ab r_<|a7 (AI OH (.one Af)) fun x13=>Ai (Df Af) fun x14=>Ab r_<|Ac<|ap Af (Ad<|Ah (Ay AS)<|Ac<|a6 (.one (A7 r_))) (Aa.scope<|Ad<|Ab r_<|Ai (h_cvc Af) fun x15=>Ab r_<|Ag<|Ab r_<|Ai (CC Af) fun x16=>Ai (Es (I:=tw) Af AS) fun x17=>Ab r_<|Ag<|Ab r_<|Ab r_<|Ag<|Ah (Ay AS)<|Ag<|AF<|dm (id:=1) (σ:=Unit) (τ:=Unit) (fun s18=>⟨[(0, .val Au a.1),(7, .val Au x15),(8, .val tv x17),(9, .val tv x17)],[]⟩) (fun p19=>⟨[],[]⟩) () sB (fun _=>r_) (fun s18=>
 Ad<|Ad<|Ab r_<|Ab r_<|Ai (CC Af) fun x20=>Ai (A8 r_ Af Af) fun x21=>Ac<|ap Af (av<|Ac<|AF<|Aa.scope<|Ad<|Ad<|Ab r_<|Ab r_<|a7 (ES Af Af) fun x22=>Ab r_<|Ab r_<|a7 (ES Af Af) fun x23=>Ai (DZ (I:=ib) r_ Af Af) fun x24=>Ac<|J2 (τ:=Int) (fun p25=>⟨[(0, .val Au a.1),(7, .val Au x15),(8, .val tv x17),(9, .val tv p25)],[]⟩) (fun p25=>Ag<|Ad<|Ah (Ay AS)<|Ac<|AF<|dm (id:=3) (σ:=Int) (τ:=Unit) (fun s27=>⟨[(0, .val Au a.1),(7, .val Au x15),(8, .val tv x17),(9, .val tv p25),(12, .val tv s27)],[]⟩) (fun p28=>⟨[(8, .val tv x17),(9, .val tv p25)],[]⟩) 1 sB (fun _=>r_) (fun s27=>Ad<|Ad<|Ab r_<|Ab r_<|Ai (CC Af) fun x29=>Ai (A8 r_ Af Af) fun x30=>Ac<|ap Af (av<|Ag<|AF<|Ad<|Ab r_<|Ab r_<|Ab r_<|Ai (Es (I:=tw) Af Af) fun x31=>a7 (ES Af Af) fun x32=>Ab r_<|Ab r_<|Ab r_<|Ai (Es (I:=tw) Af Af) fun x33=>a7 (ES Af Af) fun x34=>Ai (DZ (I:=ib) r_ Af Af) fun x35=>Ac<|ap Af (nl) (av<|AX<|Ac<|Ab r_<|Ai (B8 (I:=tw) Af AS) fun x36=>Ab r_<|dl x36 sB)) (Bi<|BF () sB)) (fun p28=>Bm<|Ag<|Ad<|Ab r_<|Ab r_<|Ai (Es (I:=tw) Af Af) fun x37=>Ab r_<|Ac<|Bq<|a6 (.one (A7 r_)))) fun k26=>ap Af (Ad<|Ab r_<|Ab r_<|Ai (B8 (I:=tw) Af AS) fun x38=>a7 (Lj Af (.some Af) .none) fun x39=>Ab r_<|Ab r_<|a7 (ES Af Af) fun x40=>a7 (AI Gp (.cons Af<| .one Af)) fun x41=>Ab r_<|Ag<|Ad<|Ab r_<|Ai (A8 r_ Af AS) fun x42=>Ac<|ap Af (
 Ad<|Ah (Ay AS)<|Ac<|Bq<|a6 (.one (A7 r_))) (av<|Ac<|Ab r_<|Ab r_<|Ai (B8 (I:=tw) Af AS) fun x43=>Ai (B8 (I:=tw) Af Af) fun x44=>Ab r_<|ji (k26 x44) sB)) (av<|ji (k26 x17) sB)) (Bi<|BF () sB)) (fun p19=>Bm<|Ag<|Ad<|Ah (Ay AS)<|Ac<|a6 (.one (A7 r_))))))
theorem Mg:Spec tb EU [Au,(am .i32)] [tv] (fun a=>Dv a.1 a.2):=
 Spec.of UI r_ r_ r_ SF
def Gf(a0:Int):Option Bool:=some (decide (8<a0))
def Ml(a:BG [tv]):BE tb F6 [tv] [du] a:=Ad<|Ah (Ay DT)<|Ag<|Ab r_<|Ai (A8 r_ Af AS) fun x1=>Ab r_<|Ac<|a6 (.one (A7 r_))
theorem M4:Spec tb D7 [tv] [du] (fun a=>Gf a):=
 Spec.of Nz r_ r_ r_ Ml
def Gm(a0:AP):Option ((Ar Bool 256)×Bool):=(iter (fun(s2:(Int×(Ar Bool 256)))=>if(decide (s2.1<(a0.length:Int)))=true then (DN a0 s2.1).bind fun x6=>let x7:=decide (((128:UInt8).toNat:Int)≤(x6.toNat:Int));if x7=true then (some (s2.2,false)).map fun r=> .inr (.inr r) else (Dl 256 (x6.toNat:Int)).bind fun x10=>(if x10<256 then some (s2.2.set x10 true)else none).bind fun x11=>some (.inl (tx tz (s2.1+1),x11)) else some (.inr (.inl s2.2))) (0,(aw 256 du).z)).bind (bd (fun(p3:(Ar Bool 256))=>some (p3,true)) some)
def P4(a:BG [Au]):BE tb Hz [Au] [(aw 256 du),du] a:=Ad<|Aj (Bj (t:=(aw 256 du)) 2 r_ r_) fun x1=>Ah (Ay DT)<|Ag<|Ad<|Ah (Ay AS)<|Ac<|AF<|dm (id:=0) (σ:=(Int×(Ar Bool 256))) (τ:=(Ar Bool 256)) (fun s2=>⟨[(0, .val Au a),(2, .cp 2 0),(4, .val tv s2.1)],[(2, .cells [(256, .val (aw 256 du) s2.2)])]⟩) (fun p3=>⟨[(2, .cp 2 0)],[(2, .cells [(256, .val (aw 256 du) p3)])]⟩) (0,x1) sB (fun _=>r_) (fun s2=>Ad<|Ad<|Ab r_<|Ab r_<|Ai (CC Af) fun x4=>Ai (A8 r_ Af Af) fun x5=>Ac<|ap Af (av<|Ag<|AF<|Ad<|Ab r_<|Ab r_<|a7 (ES Af Af) fun x6=>Ab r_<|Ag<|Ad<|Ab r_<|Ai (DZ (I:=ib) r_ Af (UF 128 r_)) fun x7=>Ac<|ap Af (Ad<|An (A4 (t:=(aw 256 du)) (u:=(aw 256 du)) Af r_ r_ (Ap _) r_ r_) fun x8=>Aj (Bc Af Af r_ r_ (Ap _) r_) fun x9=>Ah (Ay DT)<|Ac<|Bq<|a6 (.cons (BO r_ r_ r_ (Ap _) r_ r_)<| .one (A7 r_))) (av<|Ac<|Ab r_<|a7 (EB Af (o_n8 Af)) fun x10=>B2 (GH (s:=(aw 256 du)) (Ap _) r_ Af DT r_ r_) fun x11=>AX<|Ac<|Ab r_<|Ai (B8 (I:=tw) Af AS) fun x12=>Ab r_<|dl (x12,x11) sB)) (Bi<|BF s2.2 sB)) (fun p3=>Bm<|Ag<|An (A4 (t:=(aw 256 du)) (u:=(aw 256 du)) Af r_ r_ (Ap _) r_ r_) fun x13=>Aj (Bc Af Af r_ r_ (Ap _) r_) fun x14=>Ah (Ay DT)<|Ac<|a6 (.cons (BO r_ r_ r_ (Ap _) r_ r_)<| .one (A7 r_)))
theorem Qh:Spec tb Fe [Au] [(aw 256 du),du] (fun a=>Gm a):=
 Spec.of R6 r_ r_ r_ P4
def CZ(a0:(Option (Ar Bool 256)))(a1:UInt8):Option Bool:=(a0).bind fun x1=>(DN x1.l (a1.toNat:Int)).bind fun x2=>some x2
def Lb(a:BG [(xU (aw 256 du)),bi]):BE tb EY [(xU (aw 256 du)),bi] [du] a:=Ad<|Ah (Ay DT)<|Ag<|Ab r_<|Ab r_<|a7 (h_nilR Af) fun x1=>a7 (h_iaa r_ r_ Af (o_n8 Af)) fun x2=>An (IY r_ r_ Af) fun x3=>Ab r_<|Ac<|a6 (.one (A7 r_))
theorem Lr:Spec tb Dn [(xU (aw 256 du)),bi] [du] (fun a=>CZ a.1 a.2):=
 Spec.of Mw r_ r_ r_ Lb
def I7(a0:AP)(a1:AP):Option Int:=if(decide (a1=[]))=true then some (-1) else if(decide ((a1.length:Int)=1))=true then (DN a1 0).bind fun x4=>(fun(k8:Int→Option _)=>if(decide (128≤IntKind.i32.wrap (x4.toNat:Int)))=true then k8 65533 else k8 (IntKind.i32.wrap (x4.toNat:Int))) fun p7=>(Dv a0 p7).bind fun x9=>some x9 else (Gf (a0.length:Int)).bind fun x11=>(fun(k13:Unit→Option _)=>if x11=true then (Gm a1).bind fun x21=>if x21.2=true then (iter (fun(s26:Int)=>if(decide (s26<(a0.length:Int)))=true then (DN a0 s26).bind fun x30=>(CZ (some x21.1) x30).bind fun x31=>if x31=true then (some s26).map fun r=> .inr (.inr r) else some (.inl (tx tz (s26+1))) else some (.inr (.inl ()))) 0).bind (bd (fun(p27:Unit)=>some (-1)) some) else k13 () else k13 ()) fun p12=>(iter (fun(s14:Nat)=>if s14<a0.length then let x16:=E2 a0 s14;(Dv a1 x16.1).bind fun x19=>if(decide (0≤x19))=true then (some ((s14:Nat):Int)).map fun r=> .inr (.inr r) else some (.inl (s14+x16.2)) else some (.inr (.inl ()))) 0).bind (bd (fun(p15:Unit)=>some (-1)) some)
def Te(a:BG [Au,Au]):BE tb JV [Au,Au] [tv] a:=Ad<|Ah (Ay AS)<|Ag<|Ad<|Ab r_<|Ai (M9 Af EN) fun x1=>Ac<|ap Af (Ad<|Ah (Ay AS)<|Ac<|a6 (.one (A7 r_))) (av<|Ag<|Ad<|Ab r_<|Ai (CC Af) fun x2=>Ai (A8 r_ Af AS) fun x3=>Ac<|ap Af (Ad<|Ab r_<|a7 (ES Af AS) fun x4=>Ai (E8 (I:=ib) (J:=(bj .i32)) r_ Af) fun x5=>Ab r_<|Ag<|Ad<|Ab r_<|Ai (DZ (I:=(bj .i32)) r_ Af AS) fun x6=>Ac<|J2 (τ:=Int) (fun p7=>⟨[(0, .val Au a.1),(5, .val (am .i32) p7)],[]⟩) (fun p7=>Ag<|Ab r_<|Ab r_<|a7 (AI Mg (.cons Af<| .one Af)) fun x9=>Ab r_<|Ac<|a6 (.one (A7 r_))) fun k8=>ap Af (Ah (Ay AS)<|ji (k8 65533) sB) (av<|ji (k8 x5) sB)) (av<|Ag<|Ad<|Ab r_<|Ai (CC Af) fun x10=>a7 (AI M4 (.one Af)) fun x11=>Ac<|J2 (τ:=Unit) (fun p12=>⟨[(0, .val Au a.1),(1, .val Au a.2)],[]⟩) (fun p12=>Ag<|Ad<|Ab r_<|Aj (M_rng 1045 r_ Af) fun _=>Ac<|AF<|dm (id:=2) (σ:=Nat) (τ:=Unit) (fun s14=>⟨[(1, .val Au a.2),(45, .own 1045)],[(1045, .dom XP (a.1,s14))]⟩) (fun p15=>⟨[],[]⟩) 0 sB (fun _=>r_) (fun s14=>Ad<|tt Af r_ (fun x16=>Ah (AU Af r_)<|Ag<|QR Af<|av<|Ac<|AF<|Ad<|An (AU Af r_) fun x17=>An (AU Af r_) fun x18=>Ab r_<|Ab r_<|Ag<|Ab r_<|Ab r_<|a7 (AI Mg (.cons Af<| .one Af)) fun x19=>Ai (A8 r_ Af AS) fun x20=>Ac<|ap Af (Ad<|Ab r_<|Ab r_<|Ac<|Bq<|a6 (.one (A7 r_))) (av<|AX<|dl (s14+x16.2) sB)) (Ah (AU Af r_)<|Ag<|U2 Af<|Bi<|BF () sB)) (fun p15=>Bm<|Ag<|Ah (Ay AS)<|Ac<|a6 (.one (A7 r_)))) fun k13=>ap Af (
 Ad<|Ab r_<|a7 (B4 Qh (.one Af)) fun x21=>Ab r_<|An (AU Af r_) fun x22=>An (AU Af r_) fun x23=>Aj (Bj (t:=(aw 256 du)) 6 r_ r_) fun x24=>Aj (Bc Af Af r_ r_ (Ap _) r_) fun x25=>Ab r_<|Ag<|Ab r_<|Ac<|ap Af (Ad<|Ad<|Ah (Ay AS)<|Ac<|AF<|dm (id:=0) (σ:=Int) (τ:=Unit) (fun s26=>⟨[(0, .val Au a.1),(6, .cp 6 0),(8, .val tv s26)],[(6, .cells [(256, .val (aw 256 du) x25)])]⟩) (fun p27=>⟨[],[]⟩) 0 sB (fun _=>r_) (fun s26=>Ad<|Ad<|Ab r_<|Ab r_<|Ai (CC Af) fun x28=>Ai (A8 r_ Af Af) fun x29=>Ac<|ap Af (av<|Ag<|AF<|Ad<|Ab r_<|Ab r_<|a7 (ES Af Af) fun x30=>a7 (h_callR1 Lr (.cons flat_b .nil) (.cons (a_p Af r_ r_)<| .one (a_v Af))) fun x31=>Ac<|ap Af (Ad<|Ab r_<|Ab r_<|Ac<|Bq<|a6 (.one (A7 r_))) (av<|AX<|Ac<|Ab r_<|Ai (B8 (I:=tw) Af AS) fun x32=>Ab r_<|dl x32 sB)) (Bi<|BF () sB)) (fun p27=>Bm<|Ag<|Ah (Ay AS)<|Ac<|a6 (.one (A7 r_)))) (av<|ji (k13 ()) sB)) (av<|ji (k13 ()) sB)))
theorem U5:Spec tb GL [Au,Au] [tv] (fun a=>I7 a.1 a.2):=
 Spec.of VP r_ r_ r_ Te
def GJ(a0:AP)(a1:AP):Option Bool:=(I7 a0 a1).bind fun x1=>some (decide (0≤x1))
def Ql(a:BG [Au,Au]):BE tb HU [Au,Au] [du] a:=Ad<|Ah (Ay DT)<|Ag<|Ab r_<|Ab r_<|a7 (AI U5 (.cons Af<| .one Af)) fun x1=>Ai (A8 r_ Af AS) fun x2=>Ab r_<|Ac<|a6 (.one (A7 r_))
theorem Rb:Spec tb F1 [Au,Au] [du] (fun a=>GJ a.1 a.2):=
 Spec.of SK r_ r_ r_ Ql
def Jl(a0:At):Option (AP×Int):=(FL (decide (a0.Key=[])) ((GJ a0.Key [61,10]).bind fun x4=>some x4)).bind fun x5=>(FL x5 ((FG a0.Value [10]).bind fun x7=>some x7)).bind fun x8=>if x8=true then some ([],5) else (if a0.Key.length+[61].length≤2*Ci then some (a0.Key++[61])else none).bind fun x10=>(if x10.length+a0.Value.length≤2*Ci then some (x10++a0.Value)else none).bind fun x12=>if(decide (512<(x12.length:Int)))=true then some ([],4) else some (x12,0)
def Wz(a:BG [Ak]):BE tb MJ [Ak] [Au,tv] a:=Ad<|Aj (B3 (t:=Ak) 1 r_ r_ Af) fun _=>Ah (Ay EN)<|Ah (Ay AS)<|Ag<|Ad<|Ah (AA Af)<|An (A4 (t:=Ak) (u:=Au) Af r_ r_ Ce r_ r_) fun x1=>Ai (M9 Af EN) fun x2=>Ab r_<|jx 3 r_ r_ r_ (AR (AA Af)<|Bw (A4 (t:=Ak) (u:=Au) Af r_ r_ Ce r_ r_) fun x3=>jw (AI Rb (.cons Af<| .one EN)) fun x4=>dh Af) fun x5=>Ab r_<|jx 3 r_ r_ r_ (AR (AA Af)<|Bw (A4 (t:=Ak) (u:=Au) Af r_ r_ Be r_ r_) fun x6=>jw (AI IX (.cons Af<| .one EN)) fun x7=>dh Af) fun x8=>Ac<|ap Af (Ad<|Ah (Ay EN)<|Ah (Ay AS)<|Ac<|a6 (.cons (A7 r_)<| .one (A7 r_))) (av<|Ag<|Ah (AA Af)<|An (A4 (t:=Ak) (u:=Au) Af r_ r_ Ce r_ r_) fun x9=>a7 (MA Af EN) fun x10=>Ah (AA Af)<|An (A4 (t:=Ak) (u:=Au) Af r_ r_ Be r_ r_) fun x11=>a7 (MA Af Af) fun x12=>Ab r_<|Ag<|Ad<|Ab r_<|Ai (CC Af) fun x13=>Ai (A8 r_ Af AS) fun x14=>Ac<|ap Af (Ad<|Ah (Ay EN)<|Ah (Ay AS)<|Ac<|a6 (.cons (A7 r_)<| .one (A7 r_))) (av<|Ag<|Ab r_<|Ab r_<|Ah (Ay AS)<|Ac<|a6 (.cons (A7 r_)<| .one (A7 r_))))
theorem XY:Spec tb IG [Ak] [Au,tv] (fun a=>Jl a):=
 Spec.of aZ r_ r_ r_ Wz
def Rx(a0:(GS AP)):Option AP:=(iter (fun(s3:(Int×AP))=>if(decide (s3.1<(a0.l.length:Int)))=true then (DN a0.l s3.1).bind fun x6=>(OP s3.2 x6).bind fun x8=>(OP x8 [10]).bind fun x9=>some (.inl (tx tz (s3.1+1),x9)) else some (.inr (.inl s3.2))) (0,[])).bind (bd (fun(p4:AP)=>(sD false p4).bind fun x11=>some x11) some)
def dS(a:BG [(db Au)]):BE tb RN [(db Au)] [Au] a:=Ad<|Ah (Ay EN)<|Ag<|Aj (AbA 3 5 r_ r_) fun x1=>Ag<|Ad<|Ab r_<|Ai (D5 Af) fun x2=>Ah (Ay AS)<|Ac<|AF<|dm (id:=0) (σ:=(Int×AP)) (τ:=AP) (fun s3=>⟨[(3, .own 3),(6, .val (db Au) a),(7, .val tv x2),(8, .val tv s3.1)],[(3, .dom (Sd 119 5 false) s3.2)]⟩) (fun p4=>⟨[(3, .own 3)],[(3, .dom (Sd 119 5 false) p4)]⟩) (0,x1) sB (fun _=>r_) (fun s3=>Ad<|Ai (A8 r_ Af Af) fun x5=>Ag<|ap Af (av<|Ag<|AF<|Ad<|a7 (Gu r_ Af Af) fun x6=>An (IY r_ r_ Af) fun x7=>Ab r_<|Ag<|Ab r_<|B2 (jI BH r_ C1 Af r_ Af) fun x8=>Ac<|B2 (jI BH r_ C1 Af r_ EN) fun x9=>AX<|Ac<|Ai (B8 (I:=tw) Af AS) fun x10=>Ab r_<|dl (x10,x9) sB) (Bi<|BF s3.2 sB)) (fun p4=>Bm<|Ag<|B2 (Ab9 FS Af r_) fun x11=>Ab r_<|Ac<|a6 (.one (A7 r_)))
theorem jQ:Spec tb LW [(db Au)] [Au] (fun a=>Rx a):=
 Spec.of rH r_ r_ r_ dS
def Ip(a0:(GS At)):Option (AP×Int):=if(decide (400<(a0.l.length:Int)))=true then some ([],4) else (iter (fun(s4:(Int×(GS AP)))=>if(decide (s4.1<(a0.l.length:Int)))=true then (DN a0.l s4.1).bind fun x7=>(Jl x7).bind fun x12=>if(!decide (x12.2=0))=true then (some ([],x12.2)).map fun r=> .inr (.inr r) else (SS 16 s4.2 [x12.1]).bind fun x17=>some (.inl (tx tz (s4.1+1),x17)) else some (.inr (.inl s4.2))) (0, .nil)).bind (bd (fun(p5:(GS AP))=>(SS 16 p5 [[]]).bind fun x20=>(Rx x20).bind fun x21=>some (x21,0)) some)
def Vx(a:BG [(db Ak)]):BE tb LE [(db Ak)] [Au,tv] a:=Ad<|Ah (Ay EN)<|Ah (Ay AS)<|Ag<|Ad<|Ab r_<|Ai (D5 Af) fun x1=>Ai (A8 r_ Af AS) fun x2=>Ac<|ap Af (Ad<|Ah (Ay EN)<|Ah (Ay AS)<|Ac<|a6 (.cons (A7 r_)<| .one (A7 r_))) (av<|Ag<|Ah (Ay (Fj (t:=Au)))<|jj (born (n:=4) (j:=1004) r_ r_)<|Ag<|Ad<|Ab r_<|Ai (D5 Af) fun x3=>Ah (Ay AS)<|Ac<|AF<|dm (id:=0) (σ:=(Int×(GS AP))) (τ:=(GS AP)) (fun s4=>⟨[(4, .own 1004),(12, .val (db Ak) a),(13, .val tv x3),(14, .val tv s4.1)],[(1004, .row Au s4.2)]⟩) (fun p5=>⟨[(4, .own 1004)],[(1004, .row Au p5)]⟩) (0, .nil) sB (fun _=>r_) (fun s4=>Ad<|Ai (A8 r_ Af Af) fun x6=>Ag<|ap Af (av<|Ag<|AF<|Ad<|a7 (Gu r_ Af Af) fun x7=>An (IY r_ r_ Af) fun x8=>Aj (Bj (t:=Ak) 6 r_ r_) fun x9=>Aj (Bc Af Af r_ r_ (Ap _) r_) fun x10=>Ag<|An (A4 (t:=Ak) (u:=Ak) Af r_ r_ (Ap _) r_ r_) fun x11=>a7 (B4 XY (.one Af)) fun x12=>Ab r_<|An (AU Af r_) fun x13=>An (AU Af r_) fun x14=>Ab r_<|Ab r_<|Ag<|Ad<|Ab r_<|Ai (A8 r_ Af AS) fun x15=>Ac<|ap Af (Ad<|Ab r_<|Ah (Ay EN)<|Ab r_<|Ac<|Bq<|a6 (.cons (A7 r_)<| .one (A7 r_))) (av<|Ac<|Ab r_<|Ab r_<|Ai (Pb (t:=Au) (n:=1) r_ r_ (.cons r_ Af<| .nil _)) fun x16=>B2 (OD r_ Af r_ (VB Af)) fun x17=>Ab r_<|AX<|Ac<|Ai (B8 (I:=tw) Af AS) fun x18=>Ab r_<|dl (x18,x17) sB)) (Bi<|BF s4.2 sB)) (fun p5=>Bm<|Ag<|Ab r_<|Ai (Pb (t:=Au) (n:=1) r_ r_ (.cons r_ EN<| .nil _)) fun x19=>B2 (OD r_ Af r_ (VB Af)) fun x20=>gt 1004 r_ r_<|a7 (AI jQ (.one Af)) fun x21=>
 Ab r_<|Ah (Ay AS)<|Ac<|a6 (.cons (A7 r_)<| .one (A7 r_))))
theorem Wr:Spec tb Ia [(db Ak)] [Au,tv] (fun a=>Ip a):=
 Spec.of YL r_ r_ r_ Vx
def Gv(a0:AW):Option (AP×Int):=(QU a0).bind fun x2=>if(!x2)=true then some ([],1) else let x5:=(⟨1,a0.Private,0,Aw.z,Al.z⟩:Aq);let x8:=(⟨2,(aw 32 bi).z,d4.ofI a0.Port,Aw.z,Al.z⟩:Aq);let x11:=(⟨3,(aw 32 bi).z,d4.ofI (a0.Mark.toNat:Int),Aw.z,Al.z⟩:Aq);(iter (fun(s15:(Int×(GS Aq)))=>if(decide (s15.1<(a0.Peers.l.length:Int)))=true then (DN a0.Peers.l s15.1).bind fun x18=>(Ms x18).bind fun x23=>(SS 112 s15.2 x23.l).bind fun x24=>some (.inl (tx tz (s15.1+1),x24)) else some (.inr (.inl s15.2))) (0,(GS.mk [x5,x8,x11]))).bind (bd (fun(p16:(GS Aq))=>let x26:=(⟨16,(aw 32 bi).z,0,Aw.z,Al.z⟩:Aq);(SS 112 p16 [x26]).bind fun x28=>(K3 x28).bind fun x29=>(Ip x29).bind fun x30=>some (x30.1,x30.2)) some)
def aO(a:BG [Az]):BE tb PZ [Az] [Au,tv] a:=Ad<|Aj (B3 (t:=Az) 1 r_ r_ Af) fun _=>Ah (Ay EN)<|Ah (Ay AS)<|Ag<|Ad<|An (A4 (t:=Az) (u:=Az) Af r_ r_ (Ap _) r_ r_) fun x1=>a7 (AI jP (.one Af)) fun x2=>Ai (Df Af) fun x3=>Ac<|ap Af (Ad<|Ah (Ay EN)<|Ah (Ay AS)<|Ac<|a6 (.cons (A7 r_)<| .one (A7 r_))) (av<|Ag<|Ah (AA Af)<|An (A4 (t:=Az) (u:=(aw 32 bi)) Af r_ r_ H6 r_ r_) fun x4=>Ai (Ch r_ r_ (.cons AK r_ AS<| .cons D9 r_ Af<| .nil _)) fun x5=>Ah (AA Af)<|An (A4 (t:=Az) (u:=tv) Af r_ r_ Fv r_ r_) fun x6=>Ai (E8 (I:=tw) (J:=d4) r_ Af) fun x7=>Ai (Ch r_ r_ (.cons AK r_ AS<| .cons BT r_ Af<| .nil _)) fun x8=>Ah (AA Af)<|An (A4 (t:=Az) (u:=n8) Af r_ r_ JF r_ r_) fun x9=>Ai (E8 (I:=ik) (J:=d4) r_ Af) fun x10=>Ai (Ch r_ r_ (.cons AK r_ AS<| .cons BT r_ Af<| .nil _)) fun x11=>Aj (M_bls (t:=Ae) (n:=3) 1004 r_ r_ (.cons r_ Af<| .cons r_ Af<| .cons r_ Af<| .nil _) r_) fun x12=>Ab r_<|Ag<|Ad<|Ah (AA Af)<|An (A4 (t:=Az) (u:=(db A5)) Af r_ r_ BK r_ r_) fun x13=>Ai (D5 Af) fun x14=>Ah (Ay AS)<|Ac<|AF<|dm (id:=0) (σ:=(Int×(GS Aq))) (τ:=(GS Aq)) (fun s15=>⟨[(4, .own 1004),(23, .val (db A5) x13),(24, .val tv x14),(25, .val tv s15.1)],[(1004, .row Ae s15.2)]⟩) (fun p16=>⟨[(4, .own 1004)],[(1004, .row Ae p16)]⟩) (0,(.mk x12)) sB (fun _=>r_) (fun s15=>Ad<|Ai (A8 r_ Af Af) fun x17=>Ag<|ap Af (av<|Ag<|AF<|Ad<|a7 (Gu r_ Af Af) fun x18=>An (IY r_ r_ Af) fun x19=>Aj (Bj (t:=A5) 6 r_ r_) fun x20=>
 Aj (Bc Af Af r_ r_ (Ap _) r_) fun x21=>Ac<|Ab r_<|An (A4 (t:=A5) (u:=A5) Af r_ r_ (Ap _) r_ r_) fun x22=>a7 (AI dL (.one Af)) fun x23=>B2 (OD r_ Af r_ (VB Af)) fun x24=>Ab r_<|AX<|Ac<|Ai (B8 (I:=tw) Af AS) fun x25=>Ab r_<|dl (x25,x24) sB) (Bi<|BF s15.2 sB)) (fun p16=>Bm<|Ag<|Ab r_<|Ai (Ch r_ r_ (.cons AK r_ AS<| .nil _)) fun x26=>Ai (Pb (t:=Ae) (n:=1) r_ r_ (.cons r_ Af<| .nil _)) fun x27=>B2 (OD r_ Af r_ (VB Af)) fun x28=>gt 1004 r_ r_<|a7 (AI ZY (.one Af)) fun x29=>a7 (B4 Wr (.one Af)) fun x30=>An (AU Af r_) fun x31=>An (AU Af r_) fun x32=>Ab r_<|Ab r_<|Ac<|a6 (.cons (A7 r_)<| .one (A7 r_))))
theorem NQ:Spec tb GT [Az] [Au,tv] (fun a=>Gv a):=
 Spec.of lE r_ r_ r_ aO
def B0(a0:AP)(a1:AP):Option Bool:=(Cr (decide ((a1.length:Int)≤(a0.length:Int))) (let x6:=tx tz ((a0.length:Int)-(a1.length:Int));(IW a0 (some x6) none).bind fun x7=>some (decide (x7=a1)))).bind fun x9=>some x9
def JN(a:BG [Au,Au]):BE tb Eg [Au,Au] [du] a:=Ad<|Ah (Ay DT)<|Ag<|Ab r_<|Ai (CC Af) fun x1=>Ab r_<|Ai (CC Af) fun x2=>Ai (A8 r_ Af Af) fun x3=>Ab r_<|gu 9 r_ r_ r_ (AR (Ay (Cq r_))<|AR (Ay (Cq r_))<|AZ (CC Af) fun x4=>AR (Ay (Cq r_))<|AZ (CC Af) fun x5=>AZ (Es (I:=tw) Af Af) fun x6=>jw (Lj Af (.some Af) .none) fun x7=>AR (Ay (Cq r_))<|AZ (M9 Af Af) fun x8=>dh Af) fun x9=>Ab r_<|Ac<|a6 (.one (A7 r_))
theorem Gd:Spec tb Co [Au,Au] [du] (fun a=>B0 a.1 a.2):=
 Spec.of KJ r_ r_ r_ JN
def Fb(a0:AP)(a1:AP):Option Bool:=(B0 a0 a1).bind fun x1=>some x1
def SH(a:BG [Au,Au]):BE tb Jb [Au,Au] [du] a:=Ad<|Ah (Ay DT)<|Ag<|Ab r_<|Ab r_<|a7 (AI Gd (.cons Af<| .one Af)) fun x1=>Ab r_<|Ac<|a6 (.one (A7 r_))
theorem Ta:Spec tb Gw [Au,Au] [du] (fun a=>Fb a.1 a.2):=
 Spec.of UK r_ r_ r_ SH
def E3(a0:AP)(a1:AP):Option AP:=(B0 a0 a1).bind fun x1=>if x1=true then let x4:=tx tz ((a0.length:Int)-(a1.length:Int));(IW a0 none (some x4)).bind fun x5=>some x5 else some a0
def Jk(a:BG [Au,Au]):BE tb DR [Au,Au] [Au] a:=Ad<|Ah (Ay EN)<|Ag<|Ad<|Ab r_<|Ab r_<|a7 (AI Gd (.cons Af<| .one Af)) fun x1=>Ac<|ap Af (Ad<|Ab r_<|Ab r_<|Ai (CC Af) fun x2=>Ab r_<|Ai (CC Af) fun x3=>Ai (Es (I:=tw) Af Af) fun x4=>a7 (Lj Af .none (.some Af)) fun x5=>Ab r_<|Ac<|a6 (.one (A7 r_))) (av<|Ag<|Ab r_<|Ab r_<|Ac<|a6 (.one (A7 r_)))
theorem JK:Spec tb CE [Au,Au] [Au] (fun a=>E3 a.1 a.2):=
 Spec.of Kn r_ r_ r_ Jk
def Hm(a0:AP)(a1:AP):Option AP:=(E3 a0 a1).bind fun x1=>some x1
def Rh(a:BG [Au,Au]):BE tb Ix [Au,Au] [Au] a:=Ad<|Ah (Ay EN)<|Ag<|Ab r_<|Ab r_<|a7 (AI JK (.cons Af<| .one Af)) fun x1=>Ab r_<|Ac<|a6 (.one (A7 r_))
theorem SD:Spec tb FZ [Au,Au] [Au] (fun a=>Hm a.1 a.2):=
 Spec.of T3 r_ r_ r_ Rh
def E9(a0:AP):Option Int:=(iter (fun(s1:(Int×Nat))=>if s1.2<a0.length then let x3:=E2 a0 s1.2;some (.inl (tx tz (s1.1+1),s1.2+x3.2)) else some (.inr (.inl s1.1))) (0,0)).bind (bd (fun(p2:Int)=>some p2) some)
def JL(a:BG [Au]):BE tb Ee [Au] [tv] a:=Ad<|Ah (Ay AS)<|Ag<|Ad<|Ab r_<|Aj (M_rng 1004 r_ Af) fun _=>Ac<|AF<|dm (id:=0) (σ:=(Int×Nat)) (τ:=Int) (fun s1=>⟨[(2, .val tv s1.1),(4, .own 1004)],[(1004, .dom XP (a,s1.2))]⟩) (fun p2=>⟨[(2, .val tv p2)],[]⟩) (0,0) sB (fun _=>r_) (fun s1=>Ad<|tt Af r_ (fun x3=>Ah (AU Af r_)<|Ag<|QR Af<|av<|Ac<|AF<|Ab r_<|Ai (B8 (I:=tw) Af AS) fun x4=>Ab r_<|AX<|dl (x4,s1.2+x3.2) sB) (Ah (AU Af r_)<|Ag<|U2 Af<|Bi<|BF s1.1 sB)) (fun p2=>Bm<|Ag<|Ab r_<|Ab r_<|Ac<|a6 (.one (A7 r_)))
theorem Gc:Spec tb Cn [Au] [tv] (fun a=>E9 a):=
 Spec.of KH r_ r_ r_ JL
def F8(a0:AP):Option (Int×Int):=if(decide ((a0.length:Int)<1))=true then some (65533,0) else (DN a0 0).bind fun x3=>none
def Ik(a:BG [Au]):BE tb Dq [Au] [(am .i32),tv] a:=Ad<|Ah (Ay AS)<|Ah (Ay AS)<|Ag<|Ab r_<|Ai (CC Af) fun x1=>Ab r_<|Ag<|Ad<|Ab r_<|Ai (A8 r_ Af AS) fun x2=>Ac<|ap Af (Ad<|Ah (Ay AS)<|Ah (Ay AS)<|Ac<|a6 (.cons (A7 r_)<| .one (A7 r_))) (av<|Ag<|Ab r_<|a7 (ES Af AS) fun x3=>Ab r_<|Ag<|Ab r_<|nl)
theorem Im:Spec tb Cs [Au] [(am .i32),tv] (fun a=>F8 a):=
 Spec.of IQ r_ r_ r_ Ik
def GE(a0:AP):Option (Int×Int):=(Cr (!decide (a0=[])) ((DN a0 0).bind fun x2=>let x3:=decide ((x2.toNat:Int)<((128:UInt8).toNat:Int));some x3)).bind fun x4=>if x4=true then (DN a0 0).bind fun x5=>some (IntKind.i32.wrap (x5.toNat:Int),1) else (F8 a0).bind fun x7=>some (x7.1,x7.2)
def Jj(a:BG [Au]):BE tb DQ [Au] [(am .i32),tv] a:=Ad<|Ah (Ay AS)<|Ah (Ay AS)<|Ag<|Ad<|Ab r_<|Ai (qW Af EN) fun x1=>Ab r_<|gu 3 r_ r_ r_ (AR (Ay (Cq r_))<|jw (ES Af AS) fun x2=>AZ (DZ (I:=ib) r_ Af (UF 128 r_)) fun x3=>dh Af) fun x4=>Ac<|ap Af (Ad<|Ab r_<|a7 (ES Af AS) fun x5=>Ai (E8 (I:=ib) (J:=(bj .i32)) r_ Af) fun x6=>Ab r_<|Ah (Ay AS)<|Ac<|a6 (.cons (A7 r_)<| .one (A7 r_))) (Ab r_<|a7 (B4 Im (.one Af)) fun x7=>Ab r_<|An (AU Af r_) fun x8=>An (AU Af r_) fun x9=>Ab r_<|Ab r_<|Ac<|a6 (.cons (A7 r_)<| .one (A7 r_)))
theorem JJ:Spec tb CD [Au] [(am .i32),tv] (fun a=>GE a):=
 Spec.of Km r_ r_ r_ Jj
def Se(a0:AP)(a1:Int):Option (GS AP):=(E9 a0).bind fun x1=>(FL (decide (a1<0)) (some (decide (x1<a1)))).bind fun x4=>(if x4=true then some (.inl x1) else some (.inl a1):Option (Int⊕_)).bind (bd (fun(p5:Int)=>(mkG [] 16 p5 p5).bind fun x7=>(iter (fun(s8:(AP×Int×(GS AP)))=>if(decide (s8.2.1<tx tz (p5-1)))=true then (GE s8.1).bind fun x12=>(IW s8.1 none (some x12.2)).bind fun x15=>(Dl s8.2.2.l.length s8.2.1).bind fun x16=>(s8.2.2.l[x16]?.map fun y=>s8.2.2.set x16 x15).bind fun x17=>(IW s8.1 (some x12.2) none).bind fun x18=>some (.inl (x18,tx tz (s8.2.1+1),x17)) else some (.inr (.inl (s8.1,s8.2.2)))) (a0,0,x7)).bind (bd (fun(p9:(AP×(GS AP)))=>if(decide (0<p5))=true then (Dl p9.2.l.length (tx tz (p5-1))).bind fun x22=>(p9.2.l[x22]?.map fun y=>p9.2.set x22 p9.1).bind fun x23=>some x23 else some p9.2) some)) some)
def U6(a:BG [Au,tv]):BE tb KO [Au,tv] [(db Au)] a:=Ad<|Ah (Ay (Fj (t:=Au)))<|Ag<|Ab r_<|a7 (AI Gc (.one Af)) fun x1=>Ab r_<|Ag<|Ad<|Ab r_<|Ai (A8 r_ Af AS) fun x2=>Ab r_<|jx 3 r_ r_ r_ (AR (Ay (Cq r_))<|AR (Ay (Cq r_))<|AZ (A8 r_ Af Af) fun x3=>dh Af) fun x4=>Ac<|EF (τ:=Int) (fun p5=>⟨[(0, .val Au a.1),(1, .val tv p5)],[]⟩) (fun p5=>Ag<|Ab r_<|B2 (M_mks (t:=Au) 1021 r_ r_ r_ Af Af) fun x7=>Ab r_<|Ag<|Ad<|Ah (Ay AS)<|Ac<|AF<|dm (id:=0) (σ:=(AP×Int×(GS AP))) (τ:=(AP×(GS AP))) (fun s8=>⟨[(0, .val Au s8.1),(1, .val tv p5),(6, .own 1021),(7, .val tv s8.2.1)],[(1021, .row Au s8.2.2)]⟩) (fun p9=>⟨[(0, .val Au p9.1),(1, .val tv p5),(6, .own 1021)],[(1021, .row Au p9.2)]⟩) (a.1,0,x7) sB (fun _=>r_) (fun s8=>Ad<|Ad<|Ab r_<|Ab r_<|Ai (Es (I:=tw) Af AS) fun x10=>Ai (A8 r_ Af Af) fun x11=>Ac<|ap Af (av<|Ag<|AF<|Ad<|Ab r_<|a7 (B4 JJ (.one Af)) fun x12=>Ab r_<|An (AU Af r_) fun x13=>An (AU Af r_) fun x14=>Ab r_<|Ab r_<|Ag<|Ab r_<|Ab r_<|Ab r_<|Ab r_<|a7 (Lj Af .none (.some Af)) fun x15=>a7 (fX r_ Af r_ Af) fun x16=>B2 (M_stE (t:=Au) (u:=Au) r_ (Ap _) Af Af r_) fun x17=>Ac<|Ab r_<|Ab r_<|a7 (Lj Af (.some Af) .none) fun x18=>Ab r_<|AX<|Ac<|Ab r_<|Ai (B8 (I:=tw) Af AS) fun x19=>Ab r_<|dl (x18,x19,x17) sB) (Bi<|BF (s8.1,s8.2.2) sB)) (fun p9=>Bm<|Ag<|Ad<|Ab r_<|Ai (A8 r_ Af AS) fun x20=>Ac<|ap Af (Ab r_<|Ab r_<|Ai (Es (I:=tw) Af AS) fun x21=>
 Ab r_<|a7 (fX r_ Af r_ Af) fun x22=>B2 (M_stE (t:=Au) (u:=Au) r_ (Ap _) Af Af r_) fun x23=>Ag<|Ab r_<|Ab r_<|Ac<|gt 1021 r_ r_<|a6 (.one (A7 r_))) (av<|Ag<|Ab r_<|Ab r_<|Ac<|gt 1021 r_ r_<|a6 (.one (A7 r_)))))<|ap Af (Ab r_<|Ab r_<|DF x1 sB) (av<|DF a.2 sB)
theorem Vq:Spec tb Hr [Au,tv] [(db Au)] (fun a=>Se a.1 a.2):=
 Spec.of Xi r_ r_ r_ U6
def LS(a0:AP)(a1:AP):Option Int:=if(decide ((a1.length:Int)=0))=true then (E9 a0).bind fun x3=>some (tx tz (x3+1)) else if(decide ((a1.length:Int)=1))=true then (DN a1 0).bind fun x7=>(Fl a0 x7).bind fun x8=>some x8 else (iter (fun(s9:(AP×Int))=>(HE s9.1 a1).bind fun x11=>if(decide (x11=(-1)))=true then (some s9.2).map fun r=> .inr (.inr r) else (IW s9.1 (some (tx tz (x11+(a1.length:Int)))) none).bind fun x16=>some (.inl (x16,tx tz (s9.2+1)))) (a0,0)).bind (bd (fun _:Empty=>none) some)
def Wy(a:BG [Au,Au]):BE tb MI [Au,Au] [tv] a:=Ad<|Ah (Ay AS)<|Ag<|Ad<|Ab r_<|Ai (CC Af) fun x1=>Ai (A8 r_ Af AS) fun x2=>Ac<|ap Af (Ad<|Ab r_<|a7 (AI Gc (.one Af)) fun x3=>Ai (B8 (I:=tw) Af AS) fun x4=>Ab r_<|Ac<|a6 (.one (A7 r_))) (av<|Ag<|Ad<|Ab r_<|Ai (CC Af) fun x5=>Ai (A8 r_ Af AS) fun x6=>Ac<|ap Af (Ad<|Ab r_<|Ab r_<|a7 (ES Af AS) fun x7=>a7 (AI La (.cons Af<| .one Af)) fun x8=>Ab r_<|Ac<|a6 (.one (A7 r_))) (av<|Ag<|Ah (Ay AS)<|Ac<|AF<|dm (id:=0) (σ:=(AP×Int)) (τ:=Empty) (fun s9=>⟨[(0, .val Au s9.1),(1, .val Au a.2),(5, .val tv s9.2)],[]⟩) (fun p=>p.elim) (a.1,0) sB (fun _=>r_) (fun s9=>AF<|Ad<|Ab r_<|Ab r_<|a7 (AI Lq (.cons Af<| .one Af)) fun x11=>Ab r_<|Ag<|Ad<|Ab r_<|Ai (A8 r_ Af AS) fun x12=>Ac<|ap Af (Ad<|Ab r_<|Ab r_<|Ac<|Bq<|a6 (.one (A7 r_))) (av<|Ag<|Ab r_<|Ai (B8 (I:=tw) Af AS) fun x13=>Ab r_<|Ac<|Ab r_<|Ab r_<|Ab r_<|Ai (CC Af) fun x14=>Ai (B8 (I:=tw) Af Af) fun x15=>a7 (Lj Af (.some Af) .none) fun x16=>Ab r_<|AX<|dl (x16,x13) sB)) (fun _=>nl)))
theorem XX:Spec tb IF [Au,Au] [tv] (fun a=>LS a.1 a.2):=
 Spec.of aY r_ r_ r_ Wy
def Lo(a0:AP)(a1:AP)(a2:Int)(a3:Int):Option (GS AP):=if(decide (a3=0))=true then some .nil else if(decide (a1=[]))=true then (Se a0 a3).bind fun x3=>some x3 else (fun(k6:Int→Option _)=>if(decide (a3<0))=true then (LS a0 a1).bind fun x29=>k6 (tx tz (x29+1)) else k6 a3) fun p5=>let x9:=if tx tz ((a0.length:Int)+1)<p5 then tx tz ((a0.length:Int)+1)else p5;(mkG [] 16 x9 x9).bind fun x10=>(iter (fun(s12:(AP×Int×(GS AP)))=>if(decide (s12.2.1<tx tz (x9-1)))=true then (HE s12.1 a1).bind fun x15=>if(decide (x15<0))=true then some (.inr (.inl (s12.1,s12.2.1,s12.2.2))) else (IW s12.1 none (some (tx tz (x15+a2)))).bind fun x18=>(Dl s12.2.2.l.length s12.2.1).bind fun x19=>(s12.2.2.l[x19]?.map fun y=>s12.2.2.set x19 x18).bind fun x20=>(IW s12.1 (some (tx tz (x15+(a1.length:Int)))) none).bind fun x23=>some (.inl (x23,tx tz (s12.2.1+1),x20)) else some (.inr (.inl (s12.1,s12.2.1,s12.2.2)))) (a0,0,x10)).bind (bd (fun(p13:(AP×Int×(GS AP)))=>(Dl p13.2.2.l.length p13.2.1).bind fun x25=>(p13.2.2.l[x25]?.map fun y=>p13.2.2.set x25 p13.1).bind fun x26=>(slG x26 none (some (tx tz (p13.2.1+1)))).bind fun x28=>some x28) some)
def Td(a:BG [Au,Au,tv,tv]):BE tb JU [Au,Au,tv,tv] [(db Au)] a:=Ad<|Ah (Ay (Fj (t:=Au)))<|Ag<|Ad<|Ab r_<|Ai (A8 r_ Af AS) fun x1=>Ac<|ap Af (Ad<|Ah (Ay (Fj (t:=Au)))<|Ac<|a6 (.one (A7 r_))) (av<|Ag<|Ad<|Ab r_<|Ai (M9 Af EN) fun x2=>Ac<|ap Af (Ad<|Ab r_<|Ab r_<|a7 (AI Vq (.cons Af<| .one Af)) fun x3=>Ab r_<|Ac<|a6 (.one (A7 r_))) (av<|Ag<|Ad<|Ab r_<|Ai (A8 r_ Af AS) fun x4=>Ac<|J2 (τ:=Int) (fun p5=>⟨[(0, .val Au a.1),(1, .val Au a.2.1),(2, .val tv a.2.2.1),(3, .val tv p5)],[]⟩) (fun p5=>Ag<|Ab r_<|Ab r_<|Ai (CC Af) fun x7=>Ai (B8 (I:=tw) Af AS) fun x8=>Ai (h_max (I:=tw) (mx:=false) Af Af) fun x9=>Ab r_<|Ag<|Ab r_<|B2 (M_mks (t:=Au) 1031 r_ r_ r_ Af Af) fun x10=>Ab r_<|Ag<|Ab r_<|Ai (Es (I:=tw) Af AS) fun x11=>Ab r_<|Ag<|Ah (Ay AS)<|Ag<|AF<|dm (id:=0) (σ:=(AP×Int×(GS AP))) (τ:=(AP×Int×(GS AP))) (fun s12=>⟨[(0, .val Au s12.1),(1, .val Au a.2.1),(2, .val tv a.2.2.1),(3, .val tv x11),(9, .own 1031),(10, .val tv s12.2.1)],[(1031, .row Au s12.2.2)]⟩) (fun p13=>⟨[(0, .val Au p13.1),(9, .own 1031),(10, .val tv p13.2.1)],[(1031, .row Au p13.2.2)]⟩) (a.1,0,x10) sB (fun _=>r_) (fun s12=>Ad<|Ad<|Ab r_<|Ab r_<|Ai (A8 r_ Af Af) fun x14=>Ac<|ap Af (av<|Ac<|AF<|Ad<|Ab r_<|Ab r_<|a7 (AI Lq (.cons Af<| .one Af)) fun x15=>Ab r_<|Ag<|Ad<|Ab r_<|Ai (A8 r_ Af AS) fun x16=>Ac<|ap Af (Bi<|oU r_<|BF (s12.1,s12.2.1,s12.2.2) sB) (
 av<|Ag<|Ab r_<|Ab r_<|Ab r_<|Ab r_<|Ab r_<|Ai (B8 (I:=tw) Af Af) fun x17=>a7 (Lj Af .none (.some Af)) fun x18=>a7 (fX r_ Af r_ Af) fun x19=>B2 (M_stE (t:=Au) (u:=Au) r_ (Ap _) Af Af r_) fun x20=>Ag<|Ab r_<|Ab r_<|Ab r_<|Ai (CC Af) fun x21=>Ai (B8 (I:=tw) Af Af) fun x22=>a7 (Lj Af (.some Af) .none) fun x23=>Ab r_<|Ac<|Ab r_<|Ai (B8 (I:=tw) Af AS) fun x24=>Ab r_<|AX<|dl (x23,x24,x20) sB)) (Bi<|BF (s12.1,s12.2.1,s12.2.2) sB)) (fun p13=>Bm<|Ag<|Ab r_<|Ab r_<|Ab r_<|a7 (fX r_ Af r_ Af) fun x25=>B2 (M_stE (t:=Au) (u:=Au) r_ (Ap _) Af Af r_) fun x26=>Ag<|Ab r_<|Ab r_<|Ai (B8 (I:=tw) Af AS) fun x27=>gt 1031 r_ r_<|a7 (h_sll r_ Af .none (.some Af)) fun x28=>Ab r_<|Ac<|a6 (.one (A7 r_)))) fun k6=>ap Af (Ab r_<|Ab r_<|a7 (AI XX (.cons Af<| .one Af)) fun x29=>Ai (B8 (I:=tw) Af AS) fun x30=>Ab r_<|ji (k6 x30) sB) (av<|ji (k6 a.2.2.2) sB)))
theorem U4:Spec tb GK [Au,Au,tv,tv] [(db Au)] (fun a=>Lo a.1 a.2.1 a.2.2.1 a.2.2.2):=
 Spec.of VO r_ r_ r_ Td
def LR(a0:AP)(a1:AP):Option (GS AP):=(Lo a0 a1 0 (-1)).bind fun x1=>some x1
def Ww(a:BG [Au,Au]):BE tb MG [Au,Au] [(db Au)] a:=Ad<|Ah (Ay (Fj (t:=Au)))<|Ag<|Ab r_<|Ab r_<|a7 (AI U4 (.cons Af<| .cons Af<| .cons AS<| .one AS)) fun x1=>Ab r_<|Ac<|a6 (.one (A7 r_))
theorem XW:Spec tb IE [Au,Au] [(db Au)] (fun a=>LR a.1 a.2):=
 Spec.of aW r_ r_ r_ Ww
def Mo(a0:AP):Option (GS AP):=if(decide (a0=[]))=true then some .nil else (Hm a0 [10]).bind fun x2=>(LR x2 [10]).bind fun x3=>some x3
def aI(a:BG [Au]):BE tb PU [Au] [(db Au)] a:=Ad<|Ah (Ay (Fj (t:=Au)))<|Ag<|Ad<|Ab r_<|Ai (M9 Af EN) fun x1=>Ac<|ap Af (Ad<|Ah (Ay (Fj (t:=Au)))<|Ac<|a6 (.one (A7 r_))) (av<|Ag<|Ab r_<|a7 (AI SD (.cons Af<| .one EN)) fun x2=>a7 (AI XW (.cons Af<| .one EN)) fun x3=>Ab r_<|Ac<|a6 (.one (A7 r_)))
theorem dI:Spec tb K9 [Au] [(db Au)] (fun a=>Mo a):=
 Spec.of kZ r_ r_ r_ aI
def Hh(a0:AP):Option ((GS AP)×Bool):=(Cr (!decide (a0=[])) ((Fb a0 [10]).bind fun x2=>some (!x2))).bind fun x4=>if x4=true then some (.nil,false) else (Mo a0).bind fun x5=>some (x5,true)
def aG(a:BG [Au]):BE tb PS [Au] [(db Au),du] a:=Ad<|Ah (Ay (Fj (t:=Au)))<|Ah (Ay DT)<|Ag<|Ad<|Ab r_<|Ai (qW Af EN) fun x1=>Ab r_<|gu 3 r_ r_ r_ (AR (Ay (Cq r_))<|jw (AI Ta (.cons Af<| .one EN)) fun x2=>AZ (Df Af) fun x3=>dh Af) fun x4=>Ac<|ap Af (Ad<|Ah (Ay (Fj (t:=Au)))<|Ah (Ay DT)<|Ac<|a6 (.cons (A7 r_)<| .one (A7 r_))) (av<|Ag<|Ab r_<|a7 (AI dI (.one Af)) fun x5=>Ab r_<|Ah (Ay DT)<|Ac<|a6 (.cons (A7 r_)<| .one (A7 r_)))
theorem dG:Spec tb K7 [Au] [(db Au),du] (fun a=>Hh a):=
 Spec.of kX r_ r_ r_ aG
def Fx(a0:(GS AP))(a1:AP):Option Int:=(iter (fun(s2:Int)=>if(decide (s2<(a0.l.length:Int)))=true then (DN a0.l s2).bind fun x5=>if(decide (a1=x5))=true then (some s2).map fun r=> .inr (.inr r) else some (.inl (tx tz (s2+1))) else some (.inr (.inl ()))) 0).bind (bd (fun(p3:Unit)=>some (-1)) some)
def Qm(a:BG [(db Au),Au]):BE tb HV [(db Au),Au] [tv] a:=Ad<|Ah (Ay AS)<|Ag<|Ad<|Ab r_<|Ai (D5 Af) fun x1=>Ah (Ay AS)<|Ac<|AF<|dm (id:=0) (σ:=Int) (τ:=Unit) (fun s2=>⟨[(0, .val (db Au) a.1),(1, .val Au a.2),(7, .val tv x1),(8, .val tv s2)],[]⟩) (fun p3=>⟨[],[]⟩) 0 sB (fun _=>r_) (fun s2=>Ad<|Ai (A8 r_ Af Af) fun x4=>Ag<|ap Af (av<|Ag<|AF<|Ad<|Ab r_<|Ab r_<|Ag<|Ab r_<|Ab r_<|Ab r_<|a7 (Gu r_ Af Af) fun x5=>An (IY r_ r_ Af) fun x6=>Ai (M9 Af Af) fun x7=>Ac<|ap Af (Ad<|Ab r_<|Ab r_<|Ac<|Bq<|a6 (.one (A7 r_))) (av<|AX<|Ac<|Ai (B8 (I:=tw) Af AS) fun x8=>Ab r_<|dl x8 sB)) (Bi<|BF () sB)) (fun p3=>Bm<|Ag<|Ah (Ay AS)<|Ac<|a6 (.one (A7 r_)))
theorem Kp:Spec tb Ea [(db Au),Au] [tv] (fun a=>Fx a.1 a.2):=
 Spec.of SL r_ r_ r_ Qm
def EO(a0:AP):Option (At×Int):=if(decide (512<(a0.length:Int)))=true then some ((⟨[],[]⟩:At),4) else (Fc a0 (61:UInt8)).bind fun x6=>(FL (!x6.2.2) (some (decide (x6.1=[])))).bind fun x12=>(FL x12 ((FG a0 [10]).bind fun x13=>some x13)).bind fun x14=>if x14=true then some ((⟨[],[]⟩:At),5) else some ((⟨x6.1,x6.2.1⟩:At),0)
def Vw(a:BG [Au]):BE tb LD [Au] [Ak,tv] a:=Ad<|Aj (Bj (t:=Ak) 2 r_ r_) fun x1=>Ah (Ay AS)<|Ag<|Ad<|Ab r_<|Ai (CC Af) fun x2=>Ai (A8 r_ Af AS) fun x3=>Ac<|ap Af (Ad<|Ai (Ch r_ r_ (.nil _)) fun x4=>Aj (Bc Af Af r_ r_ (Ap _) r_) fun x5=>Ah (Ay AS)<|Ac<|a6 (.cons (BO r_ r_ r_ (Ap _) r_ r_)<| .one (A7 r_))) (av<|Ag<|Ab r_<|a7 (B4 I8 (.cons Af<| .one (UF 61 r_))) fun x6=>Ab r_<|An (AU Af r_) fun x7=>An (AU Af r_) fun x8=>An (AU Af r_) fun x9=>Ab r_<|Ab r_<|Ab r_<|Ag<|Ad<|Ab r_<|Ai (Df Af) fun x10=>Ab r_<|jx 2 r_ r_ r_ (AR (Ay (Cq r_))<|AZ (M9 Af EN) fun x11=>dh Af) fun x12=>Ab r_<|jx 2 r_ r_ r_ (AR (Ay (Cq r_))<|jw (AI IX (.cons Af<| .one EN)) fun x13=>dh Af) fun x14=>Ac<|ap Af (Ad<|Ai (Ch r_ r_ (.nil _)) fun x15=>Aj (Bc Af Af r_ r_ (Ap _) r_) fun x16=>Ah (Ay AS)<|Ac<|a6 (.cons (BO r_ r_ r_ (Ap _) r_ r_)<| .one (A7 r_))) (av<|Ag<|Ab r_<|Ab r_<|Ai (Ch r_ r_ (.cons Ce r_ Af<| .cons Be r_ Af<| .nil _)) fun x17=>Aj (Bc Af Af r_ r_ (Ap _) r_) fun x18=>Ah (Ay AS)<|Ac<|a6 (.cons (BO r_ r_ r_ (Ap _) r_ r_)<| .one (A7 r_))))
theorem Wq:Spec tb HZ [Au] [Ak,tv] (fun a=>EO a):=
 Spec.of YK r_ r_ r_ Vw
def Dk(a0:AP):Option ((GS At)×Int):=(Hh a0).bind fun x1=>(FL (!x1.2) (some (decide ((x1.1.l.length:Int)=0)))).bind fun x7=>(FL x7 ((Fx x1.1 []).bind fun x8=>let x11:= !decide (x8=tx tz ((x1.1.l.length:Int)-1));some x11)).bind fun x12=>if x12=true then some (.nil,5) else (slG x1.1 none (some (tx tz ((x1.1.l.length:Int)-1)))).bind fun x15=>if(decide (400<(x15.l.length:Int)))=true then some (.nil,4) else (iter (fun(s19:(Int×(GS At)))=>if(decide (s19.1<(x15.l.length:Int)))=true then (DN x15.l s19.1).bind fun x22=>(EO x22).bind fun x24=>if(!decide (x24.2=0))=true then (some (.nil,x24.2)).map fun r=> .inr (.inr r) else (SS 32 s19.2 [x24.1]).bind fun x32=>some (.inl (tx tz (s19.1+1),x32)) else some (.inr (.inl s19.2))) (0, .nil)).bind (bd (fun(p20:(GS At))=>some (p20,0)) some)
def W0(a:BG [Au]):BE tb MK [Au] [(db Ak),tv] a:=Ad<|Ah (Ay (Fj (t:=Ak)))<|jj (born (n:=2) (j:=1002) r_ r_)<|Ah (Ay AS)<|Ag<|Ab r_<|a7 (B4 dG (.one Af)) fun x1=>Ab r_<|An (AU Af r_) fun x2=>An (AU Af r_) fun x3=>Ab r_<|Ab r_<|Ag<|Ad<|Ab r_<|Ai (Df Af) fun x4=>Ab r_<|jx 3 r_ r_ r_ (AR (Ay (Cq r_))<|AZ (D5 Af) fun x5=>AZ (A8 r_ Af AS) fun x6=>dh Af) fun x7=>Ab r_<|jx 6 r_ r_ r_ (AR (Ay (Cq r_))<|jw (AI Kp (.cons Af<| .one EN)) fun x8=>AR (Ay (Cq r_))<|AZ (D5 Af) fun x9=>AZ (Es (I:=tw) Af AS) fun x10=>AZ (A8 r_ Af Af) fun x11=>dh Af) fun x12=>Ac<|ap Af (Ad<|Ah (Ay (Fj (t:=Ak)))<|jj (born (n:=2) (j:=2002) r_ r_)<|Ah (Ay AS)<|Ac<|gt 2002 r_ r_<|a6 (.cons (A7 r_)<| .one (A7 r_))) (av<|Ag<|Ab r_<|Ab r_<|Ai (D5 Af) fun x13=>Ai (Es (I:=tw) Af AS) fun x14=>a7 (h_sll r_ Af .none (.some Af)) fun x15=>Ab r_<|Ag<|Ad<|Ab r_<|Ai (D5 Af) fun x16=>Ai (A8 r_ Af AS) fun x17=>Ac<|ap Af (Ad<|Ah (Ay (Fj (t:=Ak)))<|jj (born (n:=2) (j:=2002) r_ r_)<|Ah (Ay AS)<|Ac<|gt 2002 r_ r_<|a6 (.cons (A7 r_)<| .one (A7 r_))) (av<|Ag<|Ah (Ay (Fj (t:=Ak)))<|jj (born (n:=6) (j:=2002) r_ r_)<|Ag<|Ad<|Ab r_<|Ai (D5 Af) fun x18=>Ah (Ay AS)<|Ac<|AF<|dm (id:=0) (σ:=(Int×(GS At))) (τ:=(GS At)) (fun s19=>⟨[(6, .own 2002),(39, .val (db Au) x15),(40, .val tv x18),(41, .val tv s19.1)],[(2002, .row Ak s19.2)]⟩) (fun p20=>⟨[(6, .own 2002)],[(2002, .row Ak p20)]⟩) (0, .nil) sB (fun _=>r_) (fun s19=>
 Ad<|Ai (A8 r_ Af Af) fun x21=>Ag<|ap Af (av<|Ag<|AF<|Ad<|a7 (Gu r_ Af Af) fun x22=>An (IY r_ r_ Af) fun x23=>Ab r_<|Ag<|Ab r_<|a7 (B4 Wq (.one Af)) fun x24=>Ab r_<|An (AU Af r_) fun x25=>An (AU Af r_) fun x26=>Aj (Bj (t:=Ak) 9 r_ r_) fun x27=>Aj (Bc Af Af r_ r_ (Ap _) r_) fun x28=>Ab r_<|Ag<|Ad<|Ab r_<|Ai (A8 r_ Af AS) fun x29=>Ac<|ap Af (Ad<|Ab r_<|Ah (Ay (Fj (t:=Ak)))<|jj (born (n:=2) (j:=1002) r_ r_)<|Ab r_<|Ac<|Bq<|gt 1002 r_ r_<|a6 (.cons (A7 r_)<| .one (A7 r_))) (av<|Ac<|Ab r_<|An (A4 (t:=Ak) (u:=Ak) Af r_ r_ (Ap _) r_ r_) fun x30=>Ai (Pb (t:=Ak) (n:=1) r_ r_ (.cons r_ Af<| .nil _)) fun x31=>B2 (OD r_ Af r_ (VB Af)) fun x32=>Ab r_<|AX<|Ac<|Ai (B8 (I:=tw) Af AS) fun x33=>Ab r_<|dl (x33,x32) sB)) (Bi<|BF s19.2 sB)) (fun p20=>Bm<|Ag<|Ab r_<|Ab r_<|Ah (Ay AS)<|Ac<|gt 2002 r_ r_<|a6 (.cons (A7 r_)<| .one (A7 r_)))))
theorem XZ:Spec tb II [Au] [(db Ak),tv] (fun a=>Dk a):=
 Spec.of bA r_ r_ r_ W0
def Ec(a0:AP):Option Int:=(Fx (GS.mk fZ.l) a0).bind fun x1=>some (if 0>x1 then 0 else x1)
def dT(a:BG [Au]):BE tb RO [Au] [tv] a:=Ad<|Ah (Ay AS)<|Ag<|Ah (h_slaG (t:=Au) (x:=fZ) r_ gr_0 r_)<|Ab r_<|a7 (AI Kp (.cons Af<| .one Af)) fun x1=>Ai (h_max (I:=tw) (mx:=true) Af AS) fun x2=>Ab r_<|Ac<|a6 (.one (A7 r_))
theorem UW:Spec tb Js [Au] [tv] (fun a=>Ec a):=
 Spec.of rI r_ r_ r_ dT
def DD(a0:At):Option (Aq×Int):=(Ec a0.Key).bind fun x3=>let x4:=(⟨x3,(aw 32 bi).z,0,Aw.z,Al.z⟩:Aq);if(decide (x4.Word=0))=true then let x9:=(⟨0,(aw 32 bi).z,0,Aw.z,Al.z⟩:Aq);some (x9,12) else ((if(decide (x4.Word=1))=true then some (.inl (decide (x4.Word=1))) else if(decide (x4.Word=5))=true then some (.inl (decide (x4.Word=5))) else some (.inl (decide (x4.Word=8))):Option (Bool⊕_)).bind (bd (fun(p18:Bool)=>if p18=true then (some ():Option Unit).bind (fun(p20:Unit)=>some (.inl (()))) else if(decide (x4.Word=9))=true then (some ():Option Unit).bind (fun(p22:Unit)=>some (.inr (.inl (())))) else if(decide (x4.Word=12))=true then (some ():Option Unit).bind (fun(p24:Unit)=>some (.inr (.inr (.inl (()))))) else (if(decide (x4.Word=2))=true then some (.inl (decide (x4.Word=2))) else some (.inl (decide (x4.Word=10))):Option (Bool⊕_)).bind (bd (fun(p26:Bool)=>if p26=true then (some ():Option Unit).bind (fun(p28:Unit)=>some (.inr (.inr (.inr (.inl (((65535:UInt64),(0:UInt64)))))))) else if(decide (x4.Word=3))=true then (some ():Option Unit).bind (fun(p30:Unit)=>some (.inr (.inr (.inr (.inl (((4294967295:UInt64),(0:UInt64)))))))) else if(decide (x4.Word=13))=true then (some ():Option Unit).bind (fun(p32:Unit)=>some (.inr (.inr (.inr (.inl (((1:UInt64),(1:UInt64)))))))) else (if(decide (x4.Word=14))=true then some (.inl (decide (x4.Word=14))) else some (.inl (decide (x4.Word=15))):Option (Bool⊕_)).bind (bd (fun(p34:Bool)=>if p34=true then (some ():Option Unit).bind (fun(p36:Unit)=>
 some (.inr (.inr (.inr (.inl (((18446744073709551615:UInt64),(0:UInt64)))))))) else if(decide (x4.Word=16))=true then (some ():Option Unit).bind (fun(p38:Unit)=>some (.inr (.inr (.inr (.inl (((20:UInt64),(0:UInt64)))))))) else (some ():Option Unit).bind (fun(p39:Unit)=>some (.inr (.inr (.inr (.inr (()))))))) some)) some)) some):Option (Unit⊕(Unit⊕(Unit⊕((UInt64×UInt64)⊕Unit))))).bind (bd (fun(p12:Unit)=>((Jn a0.Value).bind fun x45=>some (x45.2,{x4 with Key:=x45.1})).bind (fun(p44:(Int×Aq))=>if(!decide (p44.1=0))=true then let x50:=(⟨0,(aw 32 bi).z,0,Aw.z,Al.z⟩:Aq);some (x50,p44.1) else some (p44.2,0))) (bd (fun(p13:Unit)=>((Is a0.Value).bind fun x55=>some (x55.2,{x4 with End:=x55.1})).bind (fun(p54:(Int×Aq))=>if(!decide (p54.1=0))=true then let x60:=(⟨0,(aw 32 bi).z,0,Aw.z,Al.z⟩:Aq);some (x60,p54.1) else some (p54.2,0))) (bd (fun(p14:Unit)=>((Oj a0.Value).bind fun x65=>some (x65.2,{x4 with P:=x65.1})).bind (fun(p64:(Int×Aq))=>if(!decide (p64.1=0))=true then let x70:=(⟨0,(aw 32 bi).z,0,Aw.z,Al.z⟩:Aq);some (x70,p64.1) else some (p64.2,0))) (bd (fun(p15:(UInt64×UInt64))=>((G2 a0.Value p15.1).bind fun x76=>(Cr (decide (x76.2=0)) (let x81:=decide ((x76.1.toNat:Int)<(p15.2.toNat:Int));some x81)).bind fun x82=>(if x82=true then some (.inl 6) else some (.inl x76.2):Option (Int⊕_)).bind (bd (fun(p83:Int)=>some (p83,{x4 with N:=x76.1})) some)).bind (fun(p74:(Int×Aq))=>if(!decide (p74.1=0))=true then let x87:=(⟨0,(aw 32 bi).z,0,Aw.z,Al.z⟩:Aq)
 some (x87,p74.1) else some (p74.2,0))) (fun(p16:Unit)=>(if(!decide (a0.Value=[116,114,117,101]))=true then some 5 else some 0).bind (fun(p91:Int)=>if(!decide (p91=0))=true then let x94:=(⟨0,(aw 32 bi).z,0,Aw.z,Al.z⟩:Aq);some (x94,p91) else some (x4,0)))))))
def dU(a:BG [Ak]):BE tb RP [Ak] [Ae,tv] a:=Ad<|Aj (B3 (t:=Ak) 1 r_ r_ Af) fun _=>Aj (Bj (t:=Ae) 2 r_ r_) fun x1=>Ah (Ay AS)<|Ag<|Ah (AA Af)<|An (A4 (t:=Ak) (u:=Au) Af r_ r_ Ce r_ r_) fun x2=>a7 (AI UW (.one Af)) fun x3=>Ai (Ch r_ r_ (.cons AK r_ Af<| .nil _)) fun x4=>Aj (Bj (t:=Ae) 4 r_ r_) fun x5=>Aj (Bc Af Af r_ r_ (Ap _) r_) fun x6=>Ag<|Ad<|Ah (AA Af)<|An (A4 (t:=Ae) (u:=tv) Af r_ r_ AK r_ r_) fun x7=>Ai (A8 r_ Af AS) fun x8=>Ac<|ap Af (Ad<|Ai (Ch r_ r_ (.nil _)) fun x9=>Aj (Bc Af Af r_ r_ (Ap _) r_) fun x10=>Ah (Ay AS)<|Ac<|a6 (.cons (BO r_ r_ r_ (Ap _) r_ r_)<| .one (A7 r_))) (av<|Ag<|Ad<|gv 2<|Ax r_ (AA Af)<|Ca r_ (A4 (t:=Ae) (u:=tv) Af r_ r_ AK r_ r_) fun x11=>oS (τ:=(Unit⊕(Unit⊕(Unit⊕((UInt64×UInt64)⊕Unit))))) (φs:=[.val tv x11]) (n:=1) (L:=[(1, .cp 1 0),(2, .cp 2 0),(4, .cp 4 0)]) (Γr:=(bd (fun p12=>⟨[Ih],[ug a,uh x1,ui x6,B9,CU,FE,S4,S1,Sz]⟩) (bd (fun p13=>⟨[Ih],[ug a,uh x1,ui x6,B9,CU,FE,Sy,Sx,Sw]⟩) (bd (fun p14=>⟨[Ih],[ug a,uh x1,ui x6,B9,CU,FE,Sv,Su,St]⟩) (bd (fun p15=>⟨[Ll],[ug a,uh x1,(3, .cells [(1, .val bx p15.1)]),ui x6,(2002, .cells [(1, .val bx p15.2)]),B9,CU,FE,E0,Ig,Ie,Ez,Ey,Ew,Ev]⟩) (fun p16=>⟨[Ih],[ug a,uh x1,ui x6,B9,CU,FE,Sr,Sq,Sp]⟩)))))) r_ (.new (c:=⟨false,1,1,1,0,Au,Be.get a⟩) r_ (OE Be r_ r_ r_ r_ r_)<| .nil) 2000000 (bd (fun p12=>⟨[en_62,(1, .cp 1 0),(2, .cp 2 0),(4, .cp 4 0)],[ug a,uh x1,ui x6,S4,S1,Sz]⟩) (bd (fun p13=>⟨[en_62,(1, .cp 1 0),(2, .cp 2 0),(4, .cp 4 0)],[ug a,uh x1,ui x6,Sy,Sx,Sw]⟩) (bd (fun p14=>⟨[en_62,(1, .cp 1 0),(2, .cp 2 0),(4, .cp 4 0)],[ug a,uh x1,ui x6,Sv,Su,St]⟩) (bd (fun p15=>⟨[(16, .aggk [3600280,3600281,3600282]),(1, .cp 1 0),(2, .cp 2 0),(4, .cp 4 0)],[ug a,uh x1,(3, .cells [(1, .val bx p15.1)]),ui x6,(2002, .cells [(1, .val bx p15.2)]),E0,Ig,Ie,Ez,Ey,Ew,Ev]⟩) (fun p16=>⟨[en_62,(1, .cp 1 0),(2, .cp 2 0),(4, .cp 4 0)],[ug a,uh x1,ui x6,Sr,Sq,Sp]⟩))))) (fun _=> .nil) ME r_ r_ r_ (Cd r_) (.cons (Fy Af)<| .nil) sB r_ (
 Ad<|Aj (BX 1002 _ Io r_ r_) fun _=>Ag<|Ad<|Ab r_<|Ac<|AF<|Ad<|Ad<|Ai (A8 r_ Af AS) fun x17=>Ab r_<|Ac<|EF (τ:=Bool) (fun p18=>⟨[(2, .cp 1002 0),(3, .val tv x11),(4, .val du p18)],[ug a,uh x1,ui x6,DB,B9,CU,FE]⟩) (fun p18=>Ac<|ap Af (Ad<|fw (τ:=Unit) (φs:=[]) (n:=1) (L:=[(2, .cp 1002 0)]) (Γr:=(fun p20=>⟨[Ih],[ug a,uh x1,ui x6,DB,B9,CU,FE,Lk,S4,S1,Sz]⟩)) 2100000 (fun p20=>⟨[en_9,(2, .cp 1002 0)],[ug a,uh x1,ui x6,DB,B9,CU,FE,S4,S1,Sz]⟩) PI r_ r_ r_ (Cd r_) (.nil) sB r_ (Ad<|Aj (BX 0 _ Io r_ r_) fun _=>Ag<|Bx (EH (φs:=[.fnv (.func EC) [] [], .fnv (.func DI) [] [], .fnv (.func DH) [] []]) 3600040 (.cons Fk<| .cons Fk<| .cons Fk<| .nil) r_ r_ sB (js:=[3600040,3600041,3600042]) r_)<|Aj (Ct Af Af r_ r_ r_ r_) fun _=>Ac<|AL () (.cons (C6 r_ r_ r_ r_)<| .nil) sB) (fun p20=>AM sB r_ (.one r_) sB sB) (.one fun p20=>Aj (Ct Af Af r_ r_ r_ r_) fun _=>Ac<|AL (.inl (())) (.cons (C6 r_ r_ r_ r_)<| .nil) sB)) (Ad<|Ai (A8 r_ Af AS) fun x21=>Ab r_<|Ac<|ap Af (Ad<|fw (τ:=Unit) (φs:=[]) (n:=1) (L:=[(2, .cp 1002 0)]) (Γr:=(fun p22=>⟨[Ih],[ug a,uh x1,ui x6,DB,B9,CU,FE,Lk,Sy,Sx,Sw]⟩)) 2100000 (fun p22=>⟨[en_17,(2, .cp 1002 0)],[ug a,uh x1,ui x6,DB,B9,CU,FE,Sy,Sx,Sw]⟩) PJ r_ r_ r_ (Cd r_) (.nil) sB r_ (
 Ad<|Aj (BX 0 _ Io r_ r_) fun _=>Ag<|Bx (EH (φs:=[.fnv (.func ED) [] [], .fnv (.func DK) [] [], .fnv (.func DJ) [] []]) 3600040 (.cons Fk<| .cons Fk<| .cons Fk<| .nil) r_ r_ sB (js:=[3600040,3600041,3600042]) r_)<|Aj (Ct Af Af r_ r_ r_ r_) fun _=>Ac<|AL () (.cons (C6 r_ r_ r_ r_)<| .nil) sB) (fun p22=>AM sB r_ (.one r_) sB sB) (.one fun p22=>Aj (Ct Af Af r_ r_ r_ r_) fun _=>Ac<|AL (.inr (.inl (()))) (.cons (C6 r_ r_ r_ r_)<| .nil) sB)) (Ad<|Ai (A8 r_ Af AS) fun x23=>Ab r_<|Ac<|ap Af (Ad<|fw (τ:=Unit) (φs:=[]) (n:=1) (L:=[(2, .cp 1002 0)]) (Γr:=(fun p24=>⟨[Ih],[ug a,uh x1,ui x6,DB,B9,CU,FE,Lk,Sv,Su,St]⟩)) 2100000 (fun p24=>⟨[en_21,(2, .cp 1002 0)],[ug a,uh x1,ui x6,DB,B9,CU,FE,Sv,Su,St]⟩) MF r_ r_ r_ (Cd r_) (.nil) sB r_ (Ad<|Aj (BX 0 _ Io r_ r_) fun _=>Ag<|Bx (EH (φs:=[.fnv (.func DC) [] [], .fnv (.func Di) [] [], .fnv (.func Dh) [] []]) 3600040 (.cons Fk<| .cons Fk<| .cons Fk<| .nil) r_ r_ sB (js:=[3600040,3600041,3600042]) r_)<|Aj (Ct Af Af r_ r_ r_ r_) fun _=>Ac<|AL () (.cons (C6 r_ r_ r_ r_)<| .nil) sB) (fun p24=>AM sB r_ (.one r_) sB sB) (.one fun p24=>Aj (Ct Af Af r_ r_ r_ r_) fun _=>Ac<|AL (.inr (.inr (.inl (())))) (.cons (C6 r_ r_ r_ r_)<| .nil) sB)) (Ad<|Ad<|Ai (A8 r_ Af AS) fun x25=>Ab r_<|Ac<|EF (τ:=Bool) (fun p26=>⟨[(2, .cp 1002 0),(3, .val tv x11),(15, .val du p26)],[ug a,uh x1,ui x6,DB,B9,CU,FE]⟩) (fun p26=>
 Ac<|ap Af (Ad<|fw (τ:=Unit) (φs:=[.val bx (0:UInt64), .val bx (65535:UInt64)]) (n:=1) (L:=[(2, .cp 1002 0)]) (Γr:=(fun p28=>⟨[Ll],[ug a,uh x1,oD,ui x6,DB,Na,B9,CU,FE,Lk,E0,Ig,Ie,Ez,Ey,Ew,Ev]⟩)) 2100000 (fun p28=>⟨[en_25,(2, .cp 1002 0)],[ug a,uh x1,oD,ui x6,DB,Na,B9,CU,FE,E0,Ig,Ie,Ez,Ey,Ew,Ev]⟩) Cc r_ r_ r_ (Cd r_) (.cons (Fy (Cm 0 r_))<| .cons (Fy (Cm 65535 r_))<| .nil) sB r_ (Ad<|Aj (B3 (t:=bx) 2002 r_ r_ Af) fun _=>Aj (B3 (t:=bx) 3 r_ r_ Af) fun _=>Aj (BX 1004 _ Io r_ r_) fun _=>Ag<|Bx (FX (φs:=[]) (ψs:=[.cp 3 0, .cp 2002 0]) 3600200 (.nil) (.cons Af<| .cons Af<| .nil) r_ sB (js:=[]) (ks:=[3600200,3600201]) r_ r_)<|Bx (FX (φs:=[]) (ψs:=[.cp 2002 0, .cp 3 0]) 3600240 (.nil) (.cons Af<| .cons Af<| .nil) r_ sB (js:=[]) (ks:=[3600240,3600241]) r_ r_)<|Bx (EH (φs:=[.fnv (.func Bt) [] [3600200,3600201], .fnv (.func Bs) [] [3600240,3600241], .fnv (.func Bo) [] []]) 3600280 (.cons Af<| .cons Af<| .cons Fk<| .nil) r_ r_ sB (js:=[3600280,3600281,3600282]) r_)<|Aj (Ct Af Af r_ r_ r_ r_) fun _=>Ac<|AL () (.cons (C6 r_ r_ r_ r_)<| .nil) sB) (fun p28=>AM sB r_ (.one r_) sB sB) (.one fun p28=>Aj (Ct Af Af r_ r_ r_ r_) fun _=>Ac<|AL (.inr (.inr (.inr (.inl (((65535:UInt64),(0:UInt64))))))) (.cons (C6 r_ r_ r_ r_)<| .nil) sB)) (Ad<|Ai (A8 r_ Af AS) fun x29=>Ab r_<|Ac<|ap Af (Ad<|fw (τ:=Unit) (φs:=[.val bx (0:UInt64), .val bx (4294967295:UInt64)]) (n:=1) (L:=[(2, .cp 1002 0)]) (Γr:=(fun p30=>⟨[Ll],[ug a,uh x1,oC,ui x6,DB,Na,B9,CU,FE,Lk,E0,Ig,Ie,Ez,Ey,Ew,Ev]⟩)) 2100000 (fun p30=>⟨[en_36,(2, .cp 1002 0)],[ug a,uh x1,oC,ui x6,DB,Na,B9,CU,FE,E0,Ig,Ie,Ez,Ey,Ew,Ev]⟩) Cc r_ r_ r_ (Cd r_) (.cons (Fy (Cm 0 r_))<| .cons (Fy (Cm 4294967295 r_))<| .nil) sB r_ (
 Ad<|Aj (B3 (t:=bx) 2002 r_ r_ Af) fun _=>Aj (B3 (t:=bx) 3 r_ r_ Af) fun _=>Aj (BX 1004 _ Io r_ r_) fun _=>Ag<|Bx (FX (φs:=[]) (ψs:=[.cp 3 0, .cp 2002 0]) 3600200 (.nil) (.cons Af<| .cons Af<| .nil) r_ sB (js:=[]) (ks:=[3600200,3600201]) r_ r_)<|Bx (FX (φs:=[]) (ψs:=[.cp 2002 0, .cp 3 0]) 3600240 (.nil) (.cons Af<| .cons Af<| .nil) r_ sB (js:=[]) (ks:=[3600240,3600241]) r_ r_)<|Bx (EH (φs:=[.fnv (.func Bt) [] [3600200,3600201], .fnv (.func Bs) [] [3600240,3600241], .fnv (.func Bo) [] []]) 3600280 (.cons Af<| .cons Af<| .cons Fk<| .nil) r_ r_ sB (js:=[3600280,3600281,3600282]) r_)<|Aj (Ct Af Af r_ r_ r_ r_) fun _=>Ac<|AL () (.cons (C6 r_ r_ r_ r_)<| .nil) sB) (fun p30=>AM sB r_ (.one r_) sB sB) (.one fun p30=>Aj (Ct Af Af r_ r_ r_ r_) fun _=>Ac<|AL (.inr (.inr (.inr (.inl (((4294967295:UInt64),(0:UInt64))))))) (.cons (C6 r_ r_ r_ r_)<| .nil) sB)) (Ad<|Ai (A8 r_ Af AS) fun x31=>Ab r_<|Ac<|ap Af (Ad<|fw (τ:=Unit) (φs:=[.val bx (1:UInt64), .val bx (1:UInt64)]) (n:=1) (L:=[(2, .cp 1002 0)]) (Γr:=(fun p32=>⟨[Ll],[ug a,uh x1,oB,ui x6,DB,en_58,B9,CU,FE,Lk,E0,Ig,Ie,Ez,Ey,Ew,Ev]⟩)) 2100000 (fun p32=>⟨[en_38,(2, .cp 1002 0)],[ug a,uh x1,oB,ui x6,DB,en_58,B9,CU,FE,E0,Ig,Ie,Ez,Ey,Ew,Ev]⟩) Cc r_ r_ r_ (Cd r_) (.cons (Fy (Cm 1 r_))<| .cons (Fy (Cm 1 r_))<| .nil) sB r_ (Ad<|Aj (B3 (t:=bx) 2002 r_ r_ Af) fun _=>Aj (B3 (t:=bx) 3 r_ r_ Af) fun _=>
 Aj (BX 1004 _ Io r_ r_) fun _=>Ag<|Bx (FX (φs:=[]) (ψs:=[.cp 3 0, .cp 2002 0]) 3600200 (.nil) (.cons Af<| .cons Af<| .nil) r_ sB (js:=[]) (ks:=[3600200,3600201]) r_ r_)<|Bx (FX (φs:=[]) (ψs:=[.cp 2002 0, .cp 3 0]) 3600240 (.nil) (.cons Af<| .cons Af<| .nil) r_ sB (js:=[]) (ks:=[3600240,3600241]) r_ r_)<|Bx (EH (φs:=[.fnv (.func Bt) [] [3600200,3600201], .fnv (.func Bs) [] [3600240,3600241], .fnv (.func Bo) [] []]) 3600280 (.cons Af<| .cons Af<| .cons Fk<| .nil) r_ r_ sB (js:=[3600280,3600281,3600282]) r_)<|Aj (Ct Af Af r_ r_ r_ r_) fun _=>Ac<|AL () (.cons (C6 r_ r_ r_ r_)<| .nil) sB) (fun p32=>AM sB r_ (.one r_) sB sB) (.one fun p32=>Aj (Ct Af Af r_ r_ r_ r_) fun _=>Ac<|AL (.inr (.inr (.inr (.inl (((1:UInt64),(1:UInt64))))))) (.cons (C6 r_ r_ r_ r_)<| .nil) sB)) (Ad<|Ad<|Ai (A8 r_ Af AS) fun x33=>Ab r_<|Ac<|EF (τ:=Bool) (fun p34=>⟨[(2, .cp 1002 0),(3, .val tv x11),(25, .val du p34)],[ug a,uh x1,ui x6,DB,B9,CU,FE]⟩) (fun p34=>Ac<|ap Af (Ad<|fw (τ:=Unit) (φs:=[.val bx (0:UInt64), .val bx (18446744073709551615:UInt64)]) (n:=1) (L:=[(2, .cp 1002 0)]) (Γr:=(fun p36=>⟨[Ll],[ug a,uh x1,oA,ui x6,DB,Na,B9,CU,FE,Lk,E0,Ig,Ie,Ez,Ey,Ew,Ev]⟩)) 2100000 (fun p36=>⟨[en_41,(2, .cp 1002 0)],[ug a,uh x1,oA,ui x6,DB,Na,B9,CU,FE,E0,Ig,Ie,Ez,Ey,Ew,Ev]⟩) Cc r_ r_ r_ (Cd r_) (.cons (Fy (Cm 0 r_))<| .cons (Fy (Cm 18446744073709551615 r_))<| .nil) sB r_ (
 Ad<|Aj (B3 (t:=bx) 2002 r_ r_ Af) fun _=>Aj (B3 (t:=bx) 3 r_ r_ Af) fun _=>Aj (BX 1004 _ Io r_ r_) fun _=>Ag<|Bx (FX (φs:=[]) (ψs:=[.cp 3 0, .cp 2002 0]) 3600200 (.nil) (.cons Af<| .cons Af<| .nil) r_ sB (js:=[]) (ks:=[3600200,3600201]) r_ r_)<|Bx (FX (φs:=[]) (ψs:=[.cp 2002 0, .cp 3 0]) 3600240 (.nil) (.cons Af<| .cons Af<| .nil) r_ sB (js:=[]) (ks:=[3600240,3600241]) r_ r_)<|Bx (EH (φs:=[.fnv (.func Bt) [] [3600200,3600201], .fnv (.func Bs) [] [3600240,3600241], .fnv (.func Bo) [] []]) 3600280 (.cons Af<| .cons Af<| .cons Fk<| .nil) r_ r_ sB (js:=[3600280,3600281,3600282]) r_)<|Aj (Ct Af Af r_ r_ r_ r_) fun _=>Ac<|AL () (.cons (C6 r_ r_ r_ r_)<| .nil) sB) (fun p36=>AM sB r_ (.one r_) sB sB) (.one fun p36=>Aj (Ct Af Af r_ r_ r_ r_) fun _=>Ac<|AL (.inr (.inr (.inr (.inl (((18446744073709551615:UInt64),(0:UInt64))))))) (.cons (C6 r_ r_ r_ r_)<| .nil) sB)) (Ad<|Ai (A8 r_ Af AS) fun x37=>Ab r_<|Ac<|ap Af (Ad<|fw (τ:=Unit) (φs:=[.val bx (0:UInt64), .val bx (20:UInt64)]) (n:=1) (L:=[(2, .cp 1002 0)]) (Γr:=(fun p38=>⟨[Ll],[ug a,uh x1,nZ,ui x6,DB,Na,B9,CU,FE,Lk,E0,Ig,Ie,Ez,Ey,Ew,Ev]⟩)) 2100000 (fun p38=>⟨[en_43,(2, .cp 1002 0)],[ug a,uh x1,nZ,ui x6,DB,Na,B9,CU,FE,E0,Ig,Ie,Ez,Ey,Ew,Ev]⟩) Cc r_ r_ r_ (Cd r_) (.cons (Fy (Cm 0 r_))<| .cons (Fy (Cm 20 r_))<| .nil) sB r_ (Ad<|Aj (B3 (t:=bx) 2002 r_ r_ Af) fun _=>Aj (B3 (t:=bx) 3 r_ r_ Af) fun _=>
 Aj (BX 1004 _ Io r_ r_) fun _=>Ag<|Bx (FX (φs:=[]) (ψs:=[.cp 3 0, .cp 2002 0]) 3600200 (.nil) (.cons Af<| .cons Af<| .nil) r_ sB (js:=[]) (ks:=[3600200,3600201]) r_ r_)<|Bx (FX (φs:=[]) (ψs:=[.cp 2002 0, .cp 3 0]) 3600240 (.nil) (.cons Af<| .cons Af<| .nil) r_ sB (js:=[]) (ks:=[3600240,3600241]) r_ r_)<|Bx (EH (φs:=[.fnv (.func Bt) [] [3600200,3600201], .fnv (.func Bs) [] [3600240,3600241], .fnv (.func Bo) [] []]) 3600280 (.cons Af<| .cons Af<| .cons Fk<| .nil) r_ r_ sB (js:=[3600280,3600281,3600282]) r_)<|Aj (Ct Af Af r_ r_ r_ r_) fun _=>Ac<|AL () (.cons (C6 r_ r_ r_ r_)<| .nil) sB) (fun p38=>AM sB r_ (.one r_) sB sB) (.one fun p38=>Aj (Ct Af Af r_ r_ r_ r_) fun _=>Ac<|AL (.inr (.inr (.inr (.inl (((20:UInt64),(0:UInt64))))))) (.cons (C6 r_ r_ r_ r_)<| .nil) sB)) (av<|AX<|Ag<|fw (τ:=Unit) (φs:=[]) (n:=1) (L:=[(2, .cp 1002 0)]) (Γr:=(fun p39=>⟨[Ih],[ug a,uh x1,ui x6,DB,B9,CU,FE,Lk,Sr,Sq,Sp]⟩)) 2100000 (fun p39=>⟨[en_45,(2, .cp 1002 0)],[ug a,uh x1,ui x6,DB,B9,CU,FE,Sr,Sq,Sp]⟩) R7 r_ r_ r_ (Cd r_) (.nil) sB r_ (Ad<|Aj (BX 0 _ Io r_ r_) fun _=>Ag<|Bx (EH (φs:=[.fnv (.func Fm) [] [], .fnv (.func Eu) [] [], .fnv (.func Et) [] []]) 3600040 (.cons Fk<| .cons Fk<| .cons Fk<| .nil) r_ r_ sB (js:=[3600040,3600041,3600042]) r_)<|Aj (Ct Af Af r_ r_ r_ r_) fun _=>Ac<|AL () (.cons (C6 r_ r_ r_ r_)<| .nil) sB) (fun p39=>AM sB r_ (.one r_) sB sB) (.one fun p39=>
 Aj (Ct Af Af r_ r_ r_ r_) fun _=>Ac<|AL (.inr (.inr (.inr (.inr (()))))) (.cons (C6 r_ r_ r_ r_)<| .nil) sB))))<|ap Af (av<|DF x33 sB) (Ai (A8 r_ Af AS) fun x40=>Ab r_<|DF x40 sB)))))<|ap Af (av<|DF x25 sB) (Ai (A8 r_ Af AS) fun x41=>Ab r_<|DF x41 sB)))))<|ap Af (av<|DF x17 sB) (Ad<|Ai (A8 r_ Af AS) fun x42=>Ab r_<|Ac<|ap Af (av<|DF x42 sB) (Ai (A8 r_ Af AS) fun x43=>Ab r_<|DF x43 sB))) (JG (fun p12=>AM sB r_ (.one r_) sB sB) (JG (fun p13=>AM sB r_ (.one r_) sB sB) (JG (fun p14=>AM sB r_ (.one r_) sB sB) (JG (fun p15=>AM sB r_ (.one r_) sB sB) (fun p16=>AM sB r_ (.one r_) sB sB))))) (.alt (.one fun p12=>Ax r_ (PB (l:=[]) (r:=[3600041,3600042]) Af r_ r_ r_ r_)<|Ax r_ (AA Af)<|DE 0 r_ r_ r_ r_ r_ I6 (A4 (t:=Ak) (u:=Au) Af r_ r_ Be r_ r_)<|rn (τ:=(Int×Aq)) (φs:=[.val Au (Be.get a), .cp 4 0]) (n:=1) (L:=[(1, .cp 1 0),(2, .cp 2 0),(4, .cp 4 0)]) (Γr:=(fun p44=>⟨[(0, .val tv p44.1)],[ug a,uh x1,(4, .cells [(70, .val Ae p44.2)]),B9,CU,FE]⟩)) r_ (.nil) 2000000 (fun p44=>⟨[(20, .val tv p44.1),(1, .cp 1 0),(2, .cp 2 0),(4, .cp 4 0)],[ug a,uh x1,(4, .cells [(70, .val Ae p44.2)])]⟩) (fun _=> .nil) bH r_ r_ r_ (Ej (Qx r_ r_) r_) (.cons (Fy Af)<| .cons (Fy Af)<| .nil) sB r_ (Ad<|Ah (Ay AS)<|Ag<|Ab r_<|Ab r_<|a7 (B4 Ya (.one Af)) fun x45=>Ab r_<|An (AU Af r_) fun x46=>An (AU Af r_) fun x47=>Ah (BL Af)<|Ah (AA Af)<|Aj (Bc Af Af r_ r_ D9 r_) fun x48=>
 Ab r_<|Ag<|Ab r_<|Ab r_<|Ac<|AL (x47,x48) (.cons (IB r_)<| .nil) sB) (fun p44=>AM sB r_ (.one r_) trivial sB) fun p44=>Ax r_ (Ay (Cq r_))<|BC<|Ag<|Ab r_<|Ai (A8 r_ Af AS) fun x49=>Ac<|ap Af (Ad<|Ai (Ch r_ r_ (.nil _)) fun x50=>Ab r_<|Aj (Bc Af Af r_ r_ (Ap _) r_) fun x51=>Ab r_<|Ac<|a6 (.cons (BO r_ r_ r_ (Ap _) r_ r_)<| .one (A7 r_))) (av<|Ag<|An (A4 (t:=Ae) (u:=Ae) Af r_ r_ (Ap _) r_ r_) fun x52=>Aj (Bc Af Af r_ r_ (Ap _) r_) fun x53=>Ah (Ay AS)<|Ac<|a6 (.cons (BO r_ r_ r_ (Ap _) r_ r_)<| .one (A7 r_)))) (.alt (.one fun p13=>Ax r_ (PB (l:=[]) (r:=[3600041,3600042]) Af r_ r_ r_ r_)<|Ax r_ (AA Af)<|DE 0 r_ r_ r_ r_ r_ I6 (A4 (t:=Ak) (u:=Au) Af r_ r_ Be r_ r_)<|rn (τ:=(Int×Aq)) (φs:=[.val Au (Be.get a), .cp 4 0]) (n:=1) (L:=[(1, .cp 1 0),(2, .cp 2 0),(4, .cp 4 0)]) (Γr:=(fun p54=>⟨[(0, .val tv p54.1)],[ug a,uh x1,(4, .cells [(70, .val Ae p54.2)]),B9,CU,FE]⟩)) r_ (.nil) 2000000 (fun p54=>⟨[(20, .val tv p54.1),(1, .cp 1 0),(2, .cp 2 0),(4, .cp 4 0)],[ug a,uh x1,(4, .cells [(70, .val Ae p54.2)])]⟩) (fun _=> .nil) bK r_ r_ r_ (Ej (Qx r_ r_) r_) (.cons (Fy Af)<| .cons (Fy Af)<| .nil) sB r_ (Ad<|Ah (Ay AS)<|Ag<|Ab r_<|Ab r_<|a7 (B4 Wt (.one Af)) fun x55=>Ab r_<|An (AU Af r_) fun x56=>An (AU Af r_) fun x57=>Ah (BL Af)<|Ah (AA Af)<|Aj (Bc Af Af r_ r_ Gl r_) fun x58=>Ab r_<|Ag<|Ab r_<|Ab r_<|Ac<|AL (x57,x58) (.cons (IB r_)<| .nil) sB) (fun p54=>AM sB r_ (.one r_) trivial sB) fun p54=>
 Ax r_ (Ay (Cq r_))<|BC<|Ag<|Ab r_<|Ai (A8 r_ Af AS) fun x59=>Ac<|ap Af (Ad<|Ai (Ch r_ r_ (.nil _)) fun x60=>Ab r_<|Aj (Bc Af Af r_ r_ (Ap _) r_) fun x61=>Ab r_<|Ac<|a6 (.cons (BO r_ r_ r_ (Ap _) r_ r_)<| .one (A7 r_))) (av<|Ag<|An (A4 (t:=Ae) (u:=Ae) Af r_ r_ (Ap _) r_ r_) fun x62=>Aj (Bc Af Af r_ r_ (Ap _) r_) fun x63=>Ah (Ay AS)<|Ac<|a6 (.cons (BO r_ r_ r_ (Ap _) r_ r_)<| .one (A7 r_)))) (.alt (.one fun p14=>Ax r_ (PB (l:=[]) (r:=[3600041,3600042]) Af r_ r_ r_ r_)<|Ax r_ (AA Af)<|DE 0 r_ r_ r_ r_ r_ I6 (A4 (t:=Ak) (u:=Au) Af r_ r_ Be r_ r_)<|rn (τ:=(Int×Aq)) (φs:=[.val Au (Be.get a), .cp 4 0]) (n:=1) (L:=[(1, .cp 1 0),(2, .cp 2 0),(4, .cp 4 0)]) (Γr:=(fun p64=>⟨[(0, .val tv p64.1)],[ug a,uh x1,(4, .cells [(70, .val Ae p64.2)]),B9,CU,FE]⟩)) r_ (.nil) 2000000 (fun p64=>⟨[(20, .val tv p64.1),(1, .cp 1 0),(2, .cp 2 0),(4, .cp 4 0)],[ug a,uh x1,(4, .cells [(70, .val Ae p64.2)])]⟩) (fun _=> .nil) Xr r_ r_ r_ (Ej (Qx r_ r_) r_) (.cons (Fy Af)<| .cons (Fy Af)<| .nil) sB r_ (Ad<|Ah (Ay AS)<|Ag<|Ab r_<|Ab r_<|a7 (B4 jU (.one Af)) fun x65=>Ab r_<|An (AU Af r_) fun x66=>An (AU Af r_) fun x67=>Ah (BL Af)<|Ah (AA Af)<|Aj (Bc Af Af r_ r_ HP r_) fun x68=>Ab r_<|Ag<|Ab r_<|Ab r_<|Ac<|AL (x67,x68) (.cons (IB r_)<| .nil) sB) (fun p64=>AM sB r_ (.one r_) trivial sB) fun p64=>Ax r_ (Ay (Cq r_))<|BC<|Ag<|Ab r_<|Ai (A8 r_ Af AS) fun x69=>Ac<|ap Af (Ad<|Ai (Ch r_ r_ (.nil _)) fun x70=>
 Ab r_<|Aj (Bc Af Af r_ r_ (Ap _) r_) fun x71=>Ab r_<|Ac<|a6 (.cons (BO r_ r_ r_ (Ap _) r_ r_)<| .one (A7 r_))) (av<|Ag<|An (A4 (t:=Ae) (u:=Ae) Af r_ r_ (Ap _) r_ r_) fun x72=>Aj (Bc Af Af r_ r_ (Ap _) r_) fun x73=>Ah (Ay AS)<|Ac<|a6 (.cons (BO r_ r_ r_ (Ap _) r_ r_)<| .one (A7 r_)))) (.alt (.one fun p15=>Ax r_ (PB (l:=[]) (r:=[3600281,3600282]) Af r_ r_ r_ r_)<|Ax r_ (AA Af)<|DE 0 r_ r_ r_ r_ r_ I6 (A4 (t:=Ak) (u:=Au) Af r_ r_ Be r_ r_)<|rn (τ:=(Int×Aq)) (φs:=[.val Au (Be.get a), .cp 4 0, .cp 3 0, .cp 2002 0]) (n:=1) (L:=[(1, .cp 1 0),(2, .cp 2 0),(4, .cp 4 0)]) (Γr:=(fun p74=>⟨[(0, .val tv p74.1)],[ug a,uh x1,(4, .cells [(70, .val Ae p74.2)]),B9,CU,FE]⟩)) r_ (.nil) 2000000 (fun p74=>⟨[(20, .val tv p74.1),(1, .cp 1 0),(2, .cp 2 0),(4, .cp 4 0)],[ug a,uh x1,(4, .cells [(70, .val Ae p74.2)])]⟩) (fun _=> .nil) Xo r_ r_ r_ (Ej (Qx r_ r_) r_) (.cons (Fy Af)<| .cons (Fy Af)<| .cons (s_k r_)<| .cons (s_k r_)<| .nil) sB r_ (Ad<|Ah (Ay AS)<|Ag<|Ab r_<|An (A4 (t:=bx) (u:=bx) Af r_ r_ (Ap _) r_ r_) fun x75=>a7 (B4 J3 (.cons Af<| .one Af)) fun x76=>Ab r_<|An (AU Af r_) fun x77=>An (AU Af r_) fun x78=>Ab r_<|Ab r_<|Ag<|Ad<|Ab r_<|Ai (A8 r_ Af AS) fun x79=>Ab r_<|gu 3 r_ r_ r_ (AR (Ay (Cq r_))<|Bw (A4 (t:=bx) (u:=bx) Af r_ r_ (Ap _) r_ r_) fun x80=>AZ (DZ (I:=d4) r_ Af Af) fun x81=>dh Af) fun x82=>Ac<|EF (τ:=Int) (fun p83=>⟨[(1, .cp 4 0),(7, .val bx x77),(8, .val tv p83)],[ug a,uh x1,ui x6,B9,CU,FE]⟩) (fun p83=>
 Ag<|Ab r_<|Ab r_<|Ah (BL Af)<|Ah (AA Af)<|Aj (Bc Af Af r_ r_ BT r_) fun x85=>Ag<|Ab r_<|Ab r_<|Ac<|AL (p83,x85) (.cons (IB r_)<| .nil) sB)<|ap Af (Ah (Ay AS)<|DF 6 sB) (av<|DF x78 sB)) (fun p74=>AM sB r_ (.one r_) trivial sB) fun p74=>Ax r_ (Ay (Cq r_))<|BC<|Ag<|Ab r_<|Ai (A8 r_ Af AS) fun x86=>Ac<|ap Af (Ad<|Ai (Ch r_ r_ (.nil _)) fun x87=>Ab r_<|Aj (Bc Af Af r_ r_ (Ap _) r_) fun x88=>Ab r_<|Ac<|a6 (.cons (BO r_ r_ r_ (Ap _) r_ r_)<| .one (A7 r_))) (av<|Ag<|An (A4 (t:=Ae) (u:=Ae) Af r_ r_ (Ap _) r_ r_) fun x89=>Aj (Bc Af Af r_ r_ (Ap _) r_) fun x90=>Ah (Ay AS)<|Ac<|a6 (.cons (BO r_ r_ r_ (Ap _) r_ r_)<| .one (A7 r_)))) (.one fun p16=>Ax r_ (PB (l:=[]) (r:=[3600041,3600042]) Af r_ r_ r_ r_)<|Ax r_ (AA Af)<|DE 0 r_ r_ r_ r_ r_ I6 (A4 (t:=Ak) (u:=Au) Af r_ r_ Be r_ r_)<|rn (τ:=Int) (φs:=[.val Au (Be.get a), .cp 4 0]) (n:=1) (L:=[(1, .cp 1 0),(2, .cp 2 0),(4, .cp 4 0)]) (Γr:=(fun p91=>⟨[(0, .val tv p91)],[ug a,uh x1,ui x6,B9,CU,FE]⟩)) r_ (.nil) 2000000 (fun p91=>⟨[(20, .val tv p91),(1, .cp 1 0),(2, .cp 2 0),(4, .cp 4 0)],[ug a,uh x1,ui x6]⟩) (fun _=> .nil) gU r_ r_ r_ (Ej (Qx r_ r_) r_) (.cons (Fy Af)<| .cons (Fy Af)<| .nil) sB r_ (Ad<|Ah (Ay AS)<|Ag<|Ad<|Ab r_<|Ai (qW Af EN) fun x92=>Ac<|ap Af (Ad<|Ah (Ay AS)<|Ac<|AL 5 (.cons (IB r_)<| .nil) sB) (av<|Ag<|Ah (Ay AS)<|Ac<|AL 0 (.cons (IB r_)<| .nil) sB)) (fun p91=>AM sB r_ (.one r_) trivial sB) fun p91=>
 Ax r_ (Ay (Cq r_))<|BC<|Ag<|Ab r_<|Ai (A8 r_ Af AS) fun x93=>Ac<|ap Af (Ad<|Ai (Ch r_ r_ (.nil _)) fun x94=>Ab r_<|Aj (Bc Af Af r_ r_ (Ap _) r_) fun x95=>Ab r_<|Ac<|a6 (.cons (BO r_ r_ r_ (Ap _) r_ r_)<| .one (A7 r_))) (av<|Ag<|An (A4 (t:=Ae) (u:=Ae) Af r_ r_ (Ap _) r_ r_) fun x96=>Aj (Bc Af Af r_ r_ (Ap _) r_) fun x97=>Ah (Ay AS)<|Ac<|a6 (.cons (BO r_ r_ r_ (Ap _) r_ r_)<| .one (A7 r_)))))))))
theorem UX:Spec tb LX [Ak] [Ae,tv] (fun a=>DD a):=
 Spec.of rJ r_ r_ r_ dU
def D2(o:((GS At)×Int×Bool))(a0:Int):Option ((Aq×Bool)×((GS At)×Int×Bool)):=(FL (decide ((o.1.l.length:Int)≤o.2.1)) ((DN o.1.l o.2.1).bind fun x8=>(Ec x8.Key).bind fun x11=>some (!decide (x11=a0)))).bind fun x13=>if x13=true then let x14:=(⟨0,(aw 32 bi).z,0,Aw.z,Al.z⟩:Aq);some ((x14,false),(o.1,o.2.1,o.2.2)) else WO (DN o.1.l o.2.1) fun x16 _=>WO (DD x16) fun x18 _=>if(!decide (x18.2=0))=true then let x25:=(⟨0,(aw 32 bi).z,0,Aw.z,Al.z⟩:Aq);some ((x25,false),(o.1,o.2.1,true)) else some ((x18.1,true),(o.1,tx tz (o.2.1+1),o.2.2))
def OK(o:BG BY)(a:BG [tv]):SimO tb GY BY [tv] [Ae,du] o a:=Ad<|Aj (Bj (t:=Ae) 4 r_ r_) fun x1=>Ah (Ay DT)<|Ag<|Ad<|Ab r_<|Ah (BL Af)<|Ah (AA Af)<|An (A4 (t:=tv) (u:=tv) Af r_ r_ (Ap _) r_ r_) fun x2=>Ab r_<|Ah (BL Af)<|Ah (AA Af)<|An (A4 (t:=(OQ (db Ak))) (u:=(OQ (db Ak))) Af r_ r_ (Ap _) r_ r_) fun x3=>Ai (D5 (xX Af)) fun x4=>Ai (A8 r_ Af Af) fun x5=>Ab r_<|jx 14 r_ r_ r_ (AR (Ay (Cq r_))<|AR (BL Af)<|AR (AA Af)<|Bw (A4 (t:=(OQ (db Ak))) (u:=(OQ (db Ak))) Af r_ r_ (Ap _) r_ r_) fun x6=>AR (Ay (Cq r_))<|AR (BL Af)<|AR (AA Af)<|Bw (A4 (t:=tv) (u:=tv) Af r_ r_ (Ap _) r_ r_) fun x7=>jw (Gu r_ (xX Af) Af) fun x8=>Bf.opr (h_fa Ce Af) fun x9=>Bw (IY r_ r_ Af) fun x10=>jw (AI UW (.one Af)) fun x11=>AR (Ay (Cq r_))<|AZ (A8 r_ Af Af) fun x12=>dh Af) fun x13=>Ac<|ap Af (Ad<|Ai (Ch r_ r_ (.nil _)) fun x14=>Aj (Bc Af Af r_ r_ (Ap _) r_) fun x15=>Ah (Ay DT)<|Ac<|QQ (o.1,o.2.1,o.2.2) r_ r_ Bk (.cons (BO r_ r_ r_ (Ap _) r_ r_)<| .one (A7 r_))) (av<|Ag<|gv 2<|Ax r_ (Ay (Cq r_))<|Ax r_ (BL Af)<|Ax r_ (AA Af)<|Kh r_ (A4 (t:=(OQ (db Ak))) (u:=(OQ (db Ak))) Af r_ r_ (Ap _) r_ r_)<|Ax r_ (Ay (Cq r_))<|Ax r_ (BL Af)<|Ax r_ (AA Af)<|Kh r_ (A4 (t:=tv) (u:=tv) Af r_ r_ (Ap _) r_ r_)<|OA r_ (h_iasP (t:=Ak) (sm (ro (NJ I6) (NJ I6))) r_ Af Af) fun x16 hx16=>Kh r_ (h_ldP (t:=Ak) (x:=x16) r_ r_ Af)<|OA r_ (B4 UX (.one Af)) fun x18 hx18=>Ax r_ (Ay (Cq r_))<|Ca r_ (AU Af r_) fun x19=>
 Ca r_ (AU Af r_) fun x20=>Kg r_ (fun _=> .cons (EG.at (b:=x18) (B4 UX (.one Af)) hx18) (Cq r_) ⟨show T.Uni Ae from(dr (ce BN (ce (fm FM) (ce TY (ce (dr (ce (dr (ce BN (fm FM))) BN)) (dr (ce (dr (ce BN (fm FM))) BN))))))),show T.Uni tv from BN,trivial⟩ (.cons (h_ldP (t:=Ak) (x:=x16) r_ r_ Af) (Cq r_) (dr (ce I6 I6)) (.cons (EG.at (b:=x16) (h_iasP (t:=Ak) (sm (ro (NJ I6) (NJ I6))) r_ Af Af) hx16) (Cq r_) (show AY.Uni (.con (adr Ak x16))from trivial) (.cons (A4 (t:=tv) (u:=tv) Af r_ r_ (Ap _) r_ r_) (Cq r_) BN (.cons (A4 (t:=(OQ (db Ak))) (u:=(OQ (db Ak))) Af r_ r_ (Ap _) r_ r_) (Cq r_) (T.Un0.pu (T.Un0.sl (sm (ro (NJ I6) (NJ I6))))) (.nil)))))) (.nil) (Bj (t:=Ae) 6 r_ r_) fun x21=>Kg r_ (fun _=> .nil) (.nil) (Bc Af Af r_ r_ (Ap _) r_) fun x22=>Ax r_ (Ay (Cq r_))<|BC<|Ag<|Ad<|Ab r_<|Ai (A8 r_ Af AS) fun x23=>Ac<|ap Af (Ad<|Ab r_<|Ah (BL Af)<|Ah (AA Af)<|Aj (Bc Af DT r_ r_ (Ap _) r_) fun x24=>Ag<|Ai (Ch r_ r_ (.nil _)) fun x25=>Aj (Bc Af Af r_ r_ (Ap _) r_) fun x26=>Ah (Ay DT)<|Ac<|QQ (o.1,o.2.1,x24) r_ r_ Bk (.cons (BO r_ r_ r_ (Ap _) r_ r_)<| .one (A7 r_))) (av<|Ag<|Ab r_<|Ah (BL Af)<|Ah (AA Af)<|An (A4 (t:=tv) (u:=tv) Af r_ r_ (Ap _) r_ r_) fun x27=>Ai (B8 (I:=tw) Af AS) fun x28=>Ah (BL Af)<|Ah (AA Af)<|Aj (Bc Af Af r_ r_ (Ap _) r_) fun x29=>
 Ag<|An (A4 (t:=Ae) (u:=Ae) Af r_ r_ (Ap _) r_ r_) fun x30=>Aj (Bc Af Af r_ r_ (Ap _) r_) fun x31=>Ah (Ay DT)<|Ac<|QQ (o.1,x29,o.2.2) r_ r_ Bk (.cons (BO r_ r_ r_ (Ap _) r_ r_)<| .one (A7 r_))))
theorem EI:SC tb Cy BY [tv] [Ae,du] (fun o a=>D2 o a):=
 SC.of QB r_ r_ r_ OK
end
section
set_option maxRecDepth 100000
set_option maxHeartbeats 4000000
def BM(o:((GS At)×Int×Bool))(a0:Int):Option (Aq×((GS At)×Int×Bool)):=(D2 (o.1,o.2.1,o.2.2) a0).bind fun x2=>(FL x2.2.2.2 (some (!x2.1.2))).bind fun x9=>some (x2.1.1,(x2.2.1,x2.2.2.1,x9))
def OL(o:BG BY)(a:BG [tv]):SimO tb GZ BY [tv] [Ae] o a:=Ad<|Aj (Bj (t:=Ae) 4 r_ r_) fun x1=>Ag<|Ab r_<|Ab r_<|B2 (H5 EI Bk (o.1,o.2.1,o.2.2) (Cd r_) (Fy Af) r_ (.one (Fy Af))) fun x2=>Ab r_<|An (AU Af r_) fun x3=>An (AU Af r_) fun x4=>Aj (Bj (t:=Ae) 5 r_ r_) fun x5=>Aj (Bc Af Af r_ r_ (Ap _) r_) fun x6=>Ab r_<|Ag<|Ab r_<|Ab r_<|Ah (BL Af)<|Ah (AA Af)<|An (A4 (t:=du) (u:=du) Af r_ r_ (Ap _) r_ r_) fun x7=>Ab r_<|jx 2 r_ r_ r_ (AR (Ay (Cq r_))<|AZ (Df Af) fun x8=>dh Af) fun x9=>Ah (BL Af)<|Ah (AA Af)<|Aj (Bc Af Af r_ r_ (Ap _) r_) fun x10=>Ag<|An (A4 (t:=Ae) (u:=Ae) Af r_ r_ (Ap _) r_ r_) fun x11=>Aj (Bc Af Af r_ r_ (Ap _) r_) fun x12=>Ac<|QQ (x2.2.1,x2.2.2.1,x10) r_ r_ Bk (.one (BO r_ r_ r_ (Ap _) r_ r_))
theorem BQ:SC tb BI BY [tv] [Ae] (fun o a=>BM o a):=
 SC.of QC r_ r_ r_ OL
def HS(o:((GS At)×Int×Bool))(a0:(Ar UInt8 32)):Option (AE×((GS At)×Int×Bool)):=(BM (o.1,o.2.1,o.2.2) 8).bind fun x2=>(BM (x2.2.1,x2.2.2.1,x2.2.2.2) 13).bind fun x6=>(D2 (x6.2.1,x6.2.2.1,x6.2.2.2) 9).bind fun x7=>(if x7.1.2=true then some (.inl x7.1.1.End) else some (.inl ((⟨a0,x2.1.Key,Aw.z,0,0,0, .nil⟩:AE).End)):Option (AJ⊕_)).bind (bd (fun(p12:AJ)=>(BM (x7.2.1,x7.2.2.1,x7.2.2.2) 14).bind fun x14=>(BM (x14.2.1,x14.2.2.1,x14.2.2.2) 15).bind fun x16=>(BM (x16.2.1,x16.2.2.1,x16.2.2.2) 10).bind fun x18=>(iter (fun(s24:((GS Av)×(GS At)×Int×Bool))=>(D2 (s24.2.1,s24.2.2.1,s24.2.2.2) 12).bind fun x26=>if(!x26.1.2)=true then let x32:=(⟨(⟨a0,x2.1.Key,Aw.z,0,0,0, .nil⟩:AE).Key,(⟨a0,x2.1.Key,Aw.z,0,0,0, .nil⟩:AE).Psk,p12,tx tz (x18.1.N.toNat:Int),x14.1.N,x16.1.N,s24.1⟩:AE);(some (x32,(x26.2.1,x26.2.2.1,x26.2.2.2))).map fun r=> .inr (.inr r) else (SS 32 s24.1 [x26.1.1.P]).bind fun x36=>some (.inl (x36,x26.2.1,x26.2.2.1,x26.2.2.2))) (.nil,x18.2.1,x18.2.2.1,x18.2.2.2)).bind (bd (fun _:Empty=>none) some)) some)
def OJ(o:BG BY)(a:BG [(aw 32 bi)]):SimO tb GX BY [(aw 32 bi)] [A5] o a:=Ad<|Aj (B3 (t:=(aw 32 bi)) 3 r_ r_ Af) fun _=>Aj (Bj (t:=A5) 4 r_ r_) fun x1=>Ag<|gv 3<|Kh r_ (A4 (t:=(aw 32 bi)) (u:=(aw 32 bi)) Af r_ r_ (Ap _) r_ r_)<|Ax r_ (Ay (Cq r_))<|C2 r_ (fun _=> .cons (A4 (t:=(aw 32 bi)) (u:=(aw 32 bi)) Af r_ r_ (Ap _) r_ r_) (Cq r_) (fm FM) (.nil)) (.nil) (H5 BQ Bk (o.1,o.2.1,o.2.2) (Cd r_) (Fy Af) r_ (.one (Fy AS))) fun x2=>Ca r_ (fY D9 r_ r_ r_ Af) fun x3=>Ax r_ (EG.u (Ch r_ r_ (.cons D6 r_ Af<| .cons KX r_ Af<| .nil _)))<|Kg r_ (fun _=> .cons (A4 (t:=(aw 32 bi)) (u:=(aw 32 bi)) Af r_ r_ (Ap _) r_ r_) (Cq r_) (fm FM) (.nil)) (.nil) (Bj (t:=A5) 5 r_ r_) fun x4=>Kg r_ (fun _=> .nil) (.nil) (UP.u (Bc Af Af r_ r_ (Ap _) r_)) fun _=>A0.turn (Zl (j:=5) r_ (.iso (.prod .one (.prod .one (.prod .one (.prod .one (.prod .one (.prod .one .one))))))))<|A0.turn (bornP (t:=Al) (i:=5) (o:=85) (j:=3056) r_ r_ r_ r_)<|BC<|Ag<|Ab r_<|B2 (H5 BQ Bk (x2.2.1,x2.2.2.1,x2.2.2.2) (Cd r_) (Fy Af) r_ (.one (Fy AS))) fun x6=>Ag<|Ad<|Ab r_<|B2 (H5 EI Bk (x6.2.1,x6.2.2.1,x6.2.2.2) (Cd r_) (Fy Af) r_ (.one (Fy AS))) fun x7=>Ab r_<|An (AU Af r_) fun x8=>An (AU Af r_) fun x9=>Aj (Bj (t:=Ae) 6 r_ r_) fun x10=>Aj (Bc Af Af r_ r_ (Ap _) r_) fun x11=>Ab r_<|Ag<|Ab r_<|Ac<|EF (τ:=AJ) (fun p12=>⟨[(0, .cp 1000000 0),(4, .cp 4 0),(5, .cp 5 0)],[(4, .cells [(86, .val A5 x1)]),(5, .cells [(32, .val (aw 32 bi) (⟨((Ap _).get a),x3,Aw.z,0,0,0, .nil⟩:AE).Key),(32, .val (aw 32 bi) (⟨((Ap _).get a),x3,Aw.z,0,0,0, .nil⟩:AE).Psk),(18, .val Aw p12),(1, .val tv (⟨((Ap _).get a),x3,Aw.z,0,0,0, .nil⟩:AE).Keep),(1, .val bx (⟨((Ap _).get a),x3,Aw.z,0,0,0, .nil⟩:AE).Sent),(1, .val bx (⟨((Ap _).get a),x3,Aw.z,0,0,0, .nil⟩:AE).Got),(1, .own 3056)]),(3056, .row Al .nil),(1000000, .cells [(1, .val (OQ (db Ak)) x7.2.1),(1, .val tv x7.2.2.1),(1, .val du x7.2.2.2)]),en_64]⟩) (fun p12=>
 Ag<|Ab r_<|Bx (FX (φs:=[.cp 1000000 0]) (ψs:=[]) 3201120 (.cons Af<| .nil) (.nil) r_ sB (js:=[3201120]) (ks:=[]) r_ r_)<|Ab r_<|Ag<|Ab r_<|B2 (H5 BQ Bk (x7.2.1,x7.2.2.1,x7.2.2.2) (Ej Af r_) (s_k r_) r_ (.one (Fy AS))) fun x14=>An (fY BT r_ r_ r_ Af) fun x15=>Ab r_<|B2 (H5 BQ Bk (x14.2.1,x14.2.2.1,x14.2.2.2) (Ej Af r_) (s_k r_) r_ (.one (Fy AS))) fun x16=>An (fY BT r_ r_ r_ Af) fun x17=>Ab r_<|B2 (H5 BQ Bk (x16.2.1,x16.2.2.1,x16.2.2.2) (Ej Af r_) (s_k r_) r_ (.one (Fy AS))) fun x18=>An (fY BT r_ r_ r_ Af) fun x19=>Ai (E8 (I:=d4) (J:=tw) r_ Af) fun x20=>Ah (AA Af)<|Aj (Bc Af Af r_ r_ (Ap _) r_) fun x21=>Ah (AA Af)<|Aj (Bc Af Af r_ r_ (Ap _) r_) fun x22=>Ah (AA Af)<|Aj (Bc Af Af r_ r_ (Ap _) r_) fun x23=>Ac<|AF<|dm (id:=0) (σ:=((GS Av)×(GS At)×Int×Bool)) (τ:=Empty) (fun s24=>⟨[(0, .cp 1000000 0),(4, .cp 4 0),(5, .cp 5 0)],[(4, .cells [(86, .val A5 x1)]),(5, .cells [(32, .val (aw 32 bi) (⟨((Ap _).get a),x3,Aw.z,0,0,0, .nil⟩:AE).Key),(32, .val (aw 32 bi) (⟨((Ap _).get a),x3,Aw.z,0,0,0, .nil⟩:AE).Psk),(18, .val Aw p12),(1, .val tv x23),(1, .val bx x21),(1, .val bx x22),(1, .own 3056)]),(3056, .row Al s24.1),(1000000, .cells [(1, .val (OQ (db Ak)) s24.2.1),(1, .val tv s24.2.2.1),(1, .val du s24.2.2.2)]),en_64]⟩) (fun p=>p.elim) (.nil,x18.2.1,x18.2.2.1,x18.2.2.2) sB (fun _=>r_) (fun s24=>AF<|Ad<|Ab r_<|B2 (H5 EI Bk (s24.2.1,s24.2.2.1,s24.2.2.2) (Cd r_) (Fy Af) r_ (.one (Fy AS))) fun x26=>Ab r_<|An (AU Af r_) fun x27=>An (AU Af r_) fun x28=>
 Aj (Bj (t:=Ae) 9 r_ r_) fun x29=>Aj (Bc Af Af r_ r_ (Ap _) r_) fun x30=>Ab r_<|Ag<|Ad<|Ab r_<|Ai (Df Af) fun x31=>Ac<|ap Af (Ad<|gt 3056 r_ r_<|jj (oV (j:=5) (t:=A5) (⟨(⟨((Ap _).get a),x3,Aw.z,0,0,0, .nil⟩:AE).Key,(⟨((Ap _).get a),x3,Aw.z,0,0,0, .nil⟩:AE).Psk,p12,x23,x21,x22,s24.1⟩:AE) r_ (.iso (.prod .one (.prod .one (.prod .one (.prod .one (.prod .one (.prod .one .one)))))) r_))<|An (A4 (t:=A5) (u:=A5) Af r_ r_ (Ap _) r_ r_) fun x32=>Aj (Bc Af Af r_ r_ (Ap _) r_) fun x33=>Ac<|Bq<|QQ (x26.2.1,x26.2.2.1,x26.2.2.2) r_ r_ Bk (.one (BO r_ r_ r_ (Ap _) r_ r_))) (av<|Ac<|Ah (AA Af)<|Ah (L6 Af r_ r_ r_)<|Ah (AA Af)<|An (A4 (t:=Ae) (u:=Al) Af r_ r_ HP r_ r_) fun x34=>Ai (Pb (t:=Al) (n:=1) r_ r_ (.cons r_ Af<| .nil _)) fun x35=>B2 (OD r_ Af r_ (VB Af)) fun x36=>Ah (AA Af)<|Aj (M_stR r_ r_ Af Af r_ r_) fun _=>AX<|dl (x36,x26.2.1,x26.2.2.1,x26.2.2.2) sB)) (fun _=>nl))<|ap Af (Ah (AA Af)<|An (A4 (t:=Ae) (u:=Aw) Af r_ r_ Gl r_ r_) fun x37=>Ah (AA Af)<|Aj (Bc Af Af r_ r_ (Ap _) r_) fun x38=>DF x38 sB) (av<|DF ((⟨((Ap _).get a),x3,Aw.z,0,0,0, .nil⟩:AE).End) sB)
theorem P1:SC tb EJ BY [(aw 32 bi)] [A5] (fun o a=>HS o a):=
 SC.of QA r_ r_ r_ OJ
def HT(o:((GS At)×Int×Bool))(_:Unit):Option (AW×((GS At)×Int×Bool)):=(BM (o.1,o.2.1,o.2.2) 1).bind fun x2=>(BM (x2.2.1,x2.2.2.1,x2.2.2.2) 2).bind fun x4=>(BM (x4.2.1,x4.2.2.1,x4.2.2.2) 3).bind fun x7=>(iter (fun(s12:((GS AE)×(GS At)×Int×Bool))=>if(!s12.2.2.2)=true then (D2 (s12.2.1,s12.2.2.1,s12.2.2.2) 5).bind fun x16=>if(!x16.1.2)=true then some (.inr (.inl (x16.2.1,x16.2.2.1,x16.2.2.2,s12.1))) else (HS (x16.2.1,x16.2.2.1,x16.2.2.2) x16.1.1.Key).bind fun x23=>(SS 144 s12.1 [x23.1]).bind fun x25=>some (.inl (x25,x23.2.1,x23.2.2.1,x23.2.2.2)) else some (.inr (.inl (s12.2.1,s12.2.2.1,s12.2.2.2,s12.1)))) (.nil,x7.2.1,x7.2.2.1,x7.2.2.2)).bind (bd (fun(p13:((GS At)×Int×Bool×(GS AE)))=>(BM (p13.1,p13.2.1,p13.2.2.1) 16).bind fun x26=>let x27:=(⟨(⟨x2.1.Key,tx tz (x4.1.N.toNat:Int),CJ (x7.1.N.toNat:Int), .nil⟩:AW).Private,(⟨x2.1.Key,tx tz (x4.1.N.toNat:Int),CJ (x7.1.N.toNat:Int), .nil⟩:AW).Port,(⟨x2.1.Key,tx tz (x4.1.N.toNat:Int),CJ (x7.1.N.toNat:Int), .nil⟩:AW).Mark,p13.2.2.2⟩:AW);some (x27,(x26.2.1,x26.2.2.1,x26.2.2.2))) some)
def OM(o:BG BY)(a:BG []):SimO tb Ha BY [] [Az] o a:=Ad<|Aj (Bj (t:=Az) 2 r_ r_) fun x1=>Ag<|Ab r_<|B2 (H5 BQ Bk (o.1,o.2.1,o.2.2) (Cd r_) (Fy Af) r_ (.one (Fy AS))) fun x2=>An (fY D9 r_ r_ r_ Af) fun x3=>Ab r_<|B2 (H5 BQ Bk (x2.2.1,x2.2.2.1,x2.2.2.2) (Cd r_) (Fy Af) r_ (.one (Fy AS))) fun x4=>An (fY BT r_ r_ r_ Af) fun x5=>Ai (E8 (I:=d4) (J:=tw) r_ Af) fun x6=>Ab r_<|B2 (H5 BQ Bk (x4.2.1,x4.2.2.1,x4.2.2.2) (Cd r_) (Fy Af) r_ (.one (Fy AS))) fun x7=>An (fY BT r_ r_ r_ Af) fun x8=>Ai (E8 (I:=d4) (J:=ik) r_ Af) fun x9=>Ah (EG.u (Ch r_ r_ (.cons H6 r_ Af<| .cons Fv r_ Af<| .cons JF r_ Af<| .nil _)))<|Aj (Bj (t:=Az) 3 r_ r_) fun x10=>Aj (UP.u (Bc Af Af r_ r_ (Ap _) r_)) fun _=>jj (Zl (j:=3) r_ (.iso (.prod .one (.prod .one (.prod .one .one)))))<|jj (bornP (t:=A5) (i:=3) (o:=34) (j:=3033) r_ r_ r_ r_)<|Ag<|AF<|dm (id:=0) (σ:=((GS AE)×(GS At)×Int×Bool)) (τ:=((GS At)×Int×Bool×(GS AE))) (fun s12=>⟨[(0, .cp 1000000 0),(2, .cp 2 0),(3, .cp 3 0)],[(2, .cells [(35, .val Az x1)]),(3, .cells [(32, .val (aw 32 bi) (⟨x3,x6,x9, .nil⟩:AW).Private),(1, .val tv (⟨x3,x6,x9, .nil⟩:AW).Port),(1, .val n8 (⟨x3,x6,x9, .nil⟩:AW).Mark),(1, .own 3033)]),(3033, .row A5 s12.1),(1000000, .cells [(1, .val (OQ (db Ak)) s12.2.1),(1, .val tv s12.2.2.1),(1, .val du s12.2.2.2)]),en_64]⟩) (fun p13=>⟨[(0, .cp 1000000 0),(2, .cp 2 0),(3, .cp 3 0)],[(2, .cells [(35, .val Az x1)]),(3, .cells [(32, .val (aw 32 bi) (⟨x3,x6,x9, .nil⟩:AW).Private),(1, .val tv (⟨x3,x6,x9, .nil⟩:AW).Port),(1, .val n8 (⟨x3,x6,x9, .nil⟩:AW).Mark),(1, .own 3033)]),(3033, .row A5 p13.2.2.2),(1000000, .cells [(1, .val (OQ (db Ak)) p13.1),(1, .val tv p13.2.1),(1, .val du p13.2.2.1)]),en_64]⟩) (.nil,x7.2.1,x7.2.2.1,x7.2.2.2) sB (fun _=>r_) (fun s12=>
 Ad<|Ad<|Ab r_<|Ah (BL Af)<|Ah (AA Af)<|An (A4 (t:=du) (u:=du) Af r_ r_ (Ap _) r_ r_) fun x14=>Ai (Df Af) fun x15=>Ac<|ap Af (av<|Ac<|AF<|Ad<|Ab r_<|B2 (H5 EI Bk (s12.2.1,s12.2.2.1,s12.2.2.2) (Cd r_) (Fy Af) r_ (.one (Fy AS))) fun x16=>Ab r_<|An (AU Af r_) fun x17=>An (AU Af r_) fun x18=>Aj (Bj (t:=Ae) 4 r_ r_) fun x19=>Aj (Bc Af Af r_ r_ (Ap _) r_) fun x20=>Ab r_<|Ag<|Ad<|Ab r_<|Ai (Df Af) fun x21=>Ac<|ap Af (Bi<|oU r_<|BF (x16.2.1,x16.2.2.1,x16.2.2.2,s12.1) sB) (av<|Ac<|gv 3<|Ax r_ (AA Af)<|Kh r_ (L6 Af r_ r_ r_)<|Ax r_ (Ay (Cq r_))<|Ax r_ (AA Af)<|Ca r_ (A4 (t:=Ae) (u:=(aw 32 bi)) Af r_ r_ D9 r_ r_) fun x22=>C2 r_ (fun _=> .cons (L6 Af r_ r_ r_) (Cq r_) (show AY.Uni (.own 3033)from trivial) (.nil)) (.nil) (H5 P1 Bk (x16.2.1,x16.2.2.1,x16.2.2.2) (Cd r_) (Fy Af) r_ (.one (Fy Af))) fun x23=>BW r_ (Pb (t:=A5) (n:=1) r_ r_ (.cons r_ Af<| .nil _)) fun x24=>C2 r_ (fun _=> .nil) (.nil) (OD r_ Af r_ (VB Af)) fun x25=>Ax r_ (AA Af)<|Kg r_ (fun _=> .nil) (.nil) (M_stR r_ r_ Af Af r_ r_) fun _=>BC<|AX<|dl (x25,x23.2.1,x23.2.2.1,x23.2.2.2) sB)) (Bi<|BF (s12.2.1,s12.2.2.1,s12.2.2.2,s12.1) sB)) (fun p13=>Bm<|Ag<|Ab r_<|B2 (H5 BQ Bk (p13.1,p13.2.1,p13.2.2.1) (Cd r_) (Fy Af) r_ (.one (Fy AS))) fun x26=>Ag<|gt 3033 r_ r_<|jj (oV (j:=3) (t:=Az) (⟨(⟨x3,x6,x9, .nil⟩:AW).Private,(⟨x3,x6,x9, .nil⟩:AW).Port,(⟨x3,x6,x9, .nil⟩:AW).Mark,p13.2.2.2⟩:AW) r_ (.iso (.prod .one (.prod .one (.prod .one .one))) r_))<|An (A4 (t:=Az) (u:=Az) Af r_ r_ (Ap _) r_ r_) fun x27=>
 Aj (Bc Af Af r_ r_ (Ap _) r_) fun x28=>Ac<|QQ (x26.2.1,x26.2.2.1,x26.2.2.2) r_ r_ Bk (.one (BO r_ r_ r_ (Ap _) r_ r_)))
theorem P2:SC tb EL BY [] [Az] (fun o a=>HT o ()):=
 SC.of QD r_ r_ r_ OM
def G7(a0:AP):Option (AW×Int):=(Dk a0).bind fun x2=>if(!decide (x2.2=0))=true then some ((⟨(aw 32 bi).z,0,0, .nil⟩:AW),5) else (HT ((⟨x2.1,0,false⟩:IS).l_,(⟨x2.1,0,false⟩:IS).at_,(⟨x2.1,0,false⟩:IS).fail_) ()).bind fun x9=>(Gv x9.1).bind fun x13=>(FL x9.2.2.2 (some (!decide (x13.2=0)))).bind fun x18=>(FL x18 (some (!decide (x13.1=a0)))).bind fun x20=>if x20=true then some ((⟨(aw 32 bi).z,0,0, .nil⟩:AW),5) else some (x9.1,0)
def W4(a:BG [Au]):BE tb MO [Au] [Az,tv] a:=Ad<|Aj (Bj (t:=Az) 2 r_ r_) fun x1=>Ah (Ay AS)<|Ag<|Ab r_<|a7 (B4 (Spec.pu2 (As:=[Au]) ⟨cM,trivial⟩ cM XZ) (.one Af)) fun x2=>Ab r_<|An (AU Af r_) fun x3=>An (AU Af r_) fun x4=>Ab r_<|Ab r_<|Ag<|Ad<|Ab r_<|Ai (A8 r_ Af AS) fun x5=>Ac<|ap Af (Ad<|Ai (Ch r_ r_ (.nil _)) fun x6=>Aj (Bc Af Af r_ r_ (Ap _) r_) fun x7=>Ah (Ay AS)<|Ac<|a6 (.cons (BO r_ r_ r_ (Ap _) r_ r_)<| .one (A7 r_))) (av<|Ag<|Ab r_<|Ai (Ch r_ r_ (.cons UQ r_ Af<| .nil _)) fun x8=>Aj (B3 (t:=LN) 20 r_ r_ Af) fun _=>Ab r_<|Ag<|Ab r_<|jj (Zl (j:=20) r_ (.iso (.prod .one (.prod .one .one))))<|B2 (H5 P2 Bk (x8.l_,x8.at_,x8.fail_) (Cd r_) (Fy Af) r_ (.nil)) fun x9=>Aj (Bj (t:=Az) 7 r_ r_) fun x10=>Aj (Bc Af Af r_ r_ (Ap _) r_) fun x11=>Ag<|Ad<|An (A4 (t:=Az) (u:=Az) Af r_ r_ (Ap _) r_ r_) fun x12=>a7 (B4 NQ (.one Af)) fun x13=>Ab r_<|An (AU Af r_) fun x14=>An (AU Af r_) fun x15=>Ab r_<|Ab r_<|Ag<|Ab r_<|Ah (BL Af)<|Ah (AA Af)<|An (A4 (t:=du) (u:=du) Af r_ r_ (Ap _) r_ r_) fun x16=>Ab r_<|jx 2 r_ r_ r_ (AR (Ay (Cq r_))<|AZ (A8 r_ Af AS) fun x17=>dh Af) fun x18=>Ab r_<|jx 3 r_ r_ r_ (AR (Ay (Cq r_))<|AR (Ay (Cq r_))<|AZ (qW Af Af) fun x19=>dh Af) fun x20=>Ac<|ap Af (Ad<|Ai (Ch r_ r_ (.nil _)) fun x21=>Aj (Bc Af Af r_ r_ (Ap _) r_) fun x22=>Ah (Ay AS)<|Ac<|a6 (.cons (BO r_ r_ r_ (Ap _) r_ r_)<| .one (A7 r_))) (av<|Ag<|An (A4 (t:=Az) (u:=Az) Af r_ r_ (Ap _) r_ r_) fun x23=>Aj (Bc Af Af r_ r_ (Ap _) r_) fun x24=>
 Ah (Ay AS)<|Ac<|a6 (.cons (BO r_ r_ r_ (Ap _) r_ r_)<| .one (A7 r_))))
theorem Lt:Spec tb FI [Au] [Az,tv] (fun a=>G7 a):=
 Spec.of bE r_ r_ r_ W4
def WG(a0:(GS Av))(a1:(GS Av)):Option Bool:=let x3:= !decide ((a0.l.length:Int)=(a1.l.length:Int));if x3=true then some false else (iter (fun(s4:Int)=>if(decide (s4<(a0.l.length:Int)))=true then (DN a0.l s4).bind fun x8=>(DN a1.l s4).bind fun x10=>if(!(Iw DA x8 x10))=true then (some false).map fun r=> .inr (.inr r) else some (.inl (tx tz (s4+1))) else some (.inr (.inl ()))) 0).bind (bd (fun(p5:Unit)=>some true) some)
def pT(a:BG [(db Al),(db Al)]):BE tb VX [(db Al),(db Al)] [du] a:=Ad<|Ah (Ay DT)<|Ag<|Ad<|Ab r_<|Ai (D5 Af) fun x1=>Ab r_<|Ai (D5 Af) fun x2=>Ai (A8 r_ Af Af) fun x3=>Ac<|ap Af (Ad<|Ah (Ay DT)<|Ac<|a6 (.one (A7 r_))) (av<|Ag<|Ad<|Ah (Ay AS)<|Ac<|AF<|dm (id:=0) (σ:=Int) (τ:=Unit) (fun s4=>⟨[(0, .val (db Al) a.1),(1, .val (db Al) a.2),(5, .val tv s4)],[]⟩) (fun p5=>⟨[],[]⟩) 0 sB (fun _=>r_) (fun s4=>Ad<|Ad<|Ab r_<|Ab r_<|Ai (D5 Af) fun x6=>Ai (A8 r_ Af Af) fun x7=>Ac<|ap Af (av<|Ag<|AF<|Ad<|Ab r_<|Ab r_<|a7 (Gu r_ Af Af) fun x8=>An (IY r_ r_ Af) fun x9=>Ab r_<|Ab r_<|a7 (Gu r_ Af Af) fun x10=>An (IY r_ r_ Af) fun x11=>Ai (Q6 DA r_ r_ Af Af) fun x12=>Ac<|ap Af (Ad<|Ah (Ay DT)<|Ac<|Bq<|a6 (.one (A7 r_))) (av<|AX<|Ac<|Ab r_<|Ai (B8 (I:=tw) Af AS) fun x13=>Ab r_<|dl x13 sB)) (Bi<|BF () sB)) (fun p5=>Bm<|Ag<|Ah (Ay DT)<|Ac<|a6 (.one (A7 r_))))
theorem tD:Spec tb Pg [(db Al),(db Al)] [du] (fun a=>WG a.1 a.2):=
 Spec.of AaI r_ r_ r_ pT
def Kt(a0:AE)(a1:AE):Option Bool:=(Cr (Iw (l8 32 nr) a0.Key a1.Key) (some (Iw (l8 32 nr) a0.Psk a1.Psk))).bind fun x7=>(Cr x7 (some (Iw Em a0.End a1.End))).bind fun x11=>(Cr x11 (some (decide (a0.Keep=a1.Keep)))).bind fun x15=>(Cr x15 (let x18:=decide ((a0.Sent.toNat:Int)=(a1.Sent.toNat:Int));some x18)).bind fun x19=>(Cr x19 (let x22:=decide ((a0.Got.toNat:Int)=(a1.Got.toNat:Int));some x22)).bind fun x23=>(Cr x23 ((WG a0.Allowed a1.Allowed).bind fun x26=>some x26)).bind fun x27=>some x27
def Yi(a:BG [A5,A5]):BE tb Om [A5,A5] [du] a:=Ad<|Aj (B3 (t:=A5) 2 r_ r_ Af) fun _=>Aj (B3 (t:=A5) 3 r_ r_ Af) fun _=>Ah (Ay DT)<|Ag<|Ah (AA Af)<|An (A4 (t:=A5) (u:=(aw 32 bi)) Af r_ r_ D6 r_ r_) fun x1=>Ah (AA Af)<|An (A4 (t:=A5) (u:=(aw 32 bi)) Af r_ r_ D6 r_ r_) fun x2=>Ai (Q6 (l8 32 nr) r_ r_ Af Af) fun x3=>Ab r_<|gu 5 r_ r_ r_ (AR (AA Af)<|Bw (A4 (t:=A5) (u:=(aw 32 bi)) Af r_ r_ KX r_ r_) fun x4=>AR (AA Af)<|Bw (A4 (t:=A5) (u:=(aw 32 bi)) Af r_ r_ KX r_ r_) fun x5=>AZ (Q6 (l8 32 nr) r_ r_ Af Af) fun x6=>dh Af) fun x7=>Ab r_<|gu 5 r_ r_ r_ (AR (AA Af)<|Bw (A4 (t:=A5) (u:=Aw) Af r_ r_ Fa r_ r_) fun x8=>AR (AA Af)<|Bw (A4 (t:=A5) (u:=Aw) Af r_ r_ Fa r_ r_) fun x9=>AZ (Q6 Em r_ r_ Af Af) fun x10=>dh Af) fun x11=>Ab r_<|gu 5 r_ r_ r_ (AR (AA Af)<|Bw (A4 (t:=A5) (u:=tv) Af r_ r_ HC r_ r_) fun x12=>AR (AA Af)<|Bw (A4 (t:=A5) (u:=tv) Af r_ r_ HC r_ r_) fun x13=>AZ (A8 r_ Af Af) fun x14=>dh Af) fun x15=>Ab r_<|gu 5 r_ r_ r_ (AR (AA Af)<|Bw (A4 (t:=A5) (u:=bx) Af r_ r_ MV r_ r_) fun x16=>AR (AA Af)<|Bw (A4 (t:=A5) (u:=bx) Af r_ r_ MV r_ r_) fun x17=>AZ (DZ (I:=d4) r_ Af Af) fun x18=>dh Af) fun x19=>Ab r_<|gu 5 r_ r_ r_ (AR (AA Af)<|Bw (A4 (t:=A5) (u:=bx) Af r_ r_ KY r_ r_) fun x20=>AR (AA Af)<|Bw (A4 (t:=A5) (u:=bx) Af r_ r_ KY r_ r_) fun x21=>AZ (DZ (I:=d4) r_ Af Af) fun x22=>dh Af) fun x23=>Ab r_<|gu 5 r_ r_ r_ (AR (AA Af)<|Bw (A4 (t:=A5) (u:=(db Al)) Af r_ r_ CF r_ r_) fun x24=>
 AR (AA Af)<|Bw (A4 (t:=A5) (u:=(db Al)) Af r_ r_ CF r_ r_) fun x25=>jw (AI tD (.cons Af<| .one Af)) fun x26=>dh Af) fun x27=>Ab r_<|Ac<|a6 (.one (A7 r_))
theorem ZV:Spec tb J7 [A5,A5] [du] (fun a=>Kt a.1 a.2):=
 Spec.of gK r_ r_ r_ Yi
def Ku(a0:AW)(a1:AW):Option Bool:=let x3:= !(Iw (l8 32 nr) a0.Private a1.Private);(FL x3 (some (!decide (a0.Port=a1.Port)))).bind fun x7=>(FL x7 (let x10:= !decide ((a0.Mark.toNat:Int)=(a1.Mark.toNat:Int));some x10)).bind fun x11=>(FL x11 (let x16:= !decide ((a0.Peers.l.length:Int)=(a1.Peers.l.length:Int));some x16)).bind fun x17=>if x17=true then some false else (iter (fun(s18:Int)=>if(decide (s18<(a0.Peers.l.length:Int)))=true then (DN a0.Peers.l s18).bind fun x24=>(DN a1.Peers.l s18).bind fun x27=>(Kt x24 x27).bind fun x29=>if(!x29)=true then (some false).map fun r=> .inr (.inr r) else some (.inl (tx tz (s18+1))) else some (.inr (.inl ()))) 0).bind (bd (fun(p19:Unit)=>some true) some)
def pS(a:BG [Az,Az]):BE tb VW [Az,Az] [du] a:=Ad<|Aj (B3 (t:=Az) 2 r_ r_ Af) fun _=>Aj (B3 (t:=Az) 3 r_ r_ Af) fun _=>Ah (Ay DT)<|Ag<|Ad<|Ah (AA Af)<|An (A4 (t:=Az) (u:=(aw 32 bi)) Af r_ r_ H6 r_ r_) fun x1=>Ah (AA Af)<|An (A4 (t:=Az) (u:=(aw 32 bi)) Af r_ r_ H6 r_ r_) fun x2=>Ai (Q6 (l8 32 nr) r_ r_ Af Af) fun x3=>Ab r_<|jx 5 r_ r_ r_ (AR (AA Af)<|Bw (A4 (t:=Az) (u:=tv) Af r_ r_ Fv r_ r_) fun x4=>AR (AA Af)<|Bw (A4 (t:=Az) (u:=tv) Af r_ r_ Fv r_ r_) fun x5=>AZ (A8 r_ Af Af) fun x6=>dh Af) fun x7=>Ab r_<|jx 5 r_ r_ r_ (AR (AA Af)<|Bw (A4 (t:=Az) (u:=n8) Af r_ r_ JF r_ r_) fun x8=>AR (AA Af)<|Bw (A4 (t:=Az) (u:=n8) Af r_ r_ JF r_ r_) fun x9=>AZ (DZ (I:=ik) r_ Af Af) fun x10=>dh Af) fun x11=>Ab r_<|jx 7 r_ r_ r_ (AR (AA Af)<|Bw (A4 (t:=Az) (u:=(db A5)) Af r_ r_ BK r_ r_) fun x12=>AZ (D5 Af) fun x13=>AR (AA Af)<|Bw (A4 (t:=Az) (u:=(db A5)) Af r_ r_ BK r_ r_) fun x14=>AZ (D5 Af) fun x15=>AZ (A8 r_ Af Af) fun x16=>dh Af) fun x17=>Ac<|ap Af (Ad<|Ah (Ay DT)<|Ac<|a6 (.one (A7 r_))) (av<|Ag<|Ad<|Ah (Ay AS)<|Ac<|AF<|dm (id:=0) (σ:=Int) (τ:=Unit) (fun s18=>⟨[(2, .cp 2 0),(3, .cp 3 0),(5, .val tv s18)],[(2, .cells [(35, .val Az a.1)]),(3, .cells [(35, .val Az a.2)])]⟩) (fun p19=>⟨[],[]⟩) 0 sB (fun _=>r_) (fun s18=>Ad<|Ad<|Ab r_<|Ah (AA Af)<|An (A4 (t:=Az) (u:=(db A5)) Af r_ r_ BK r_ r_) fun x20=>Ai (D5 Af) fun x21=>Ai (A8 r_ Af Af) fun x22=>Ac<|ap Af (av<|Ag<|AF<|Ad<|Ah (AA Af)<|
 An (A4 (t:=Az) (u:=(db A5)) Af r_ r_ BK r_ r_) fun x23=>Ab r_<|a7 (Gu r_ Af Af) fun x24=>An (IY r_ r_ Af) fun x25=>Ah (AA Af)<|An (A4 (t:=Az) (u:=(db A5)) Af r_ r_ BK r_ r_) fun x26=>Ab r_<|a7 (Gu r_ Af Af) fun x27=>An (IY r_ r_ Af) fun x28=>a7 (AI ZV (.cons Af<| .one Af)) fun x29=>Ai (Df Af) fun x30=>Ac<|ap Af (Ad<|Ah (Ay DT)<|Ac<|Bq<|a6 (.one (A7 r_))) (av<|AX<|Ac<|Ab r_<|Ai (B8 (I:=tw) Af AS) fun x31=>Ab r_<|dl x31 sB)) (Bi<|BF () sB)) (fun p19=>Bm<|Ag<|Ah (Ay DT)<|Ac<|a6 (.one (A7 r_))))
theorem Zw:Spec tb Mv [Az,Az] [du] (fun a=>Ku a.1 a.2):=
 Spec.of AaH r_ r_ r_ pS
def L2(_:Unit):Option Bool:=let x1:=(⟨[(1:UInt8),0,0,0,0,0,0,0,0,0,0,0,0,0,0,0,0,0,0,0,0,0,0,0,0,0,0,0,0,0,0,0],rfl⟩:(Ar UInt8 32));let x2:=(⟨x1,(aw 32 bi).z,Aw.z,0,0,(3:UInt64), .nil⟩:AE);let x4:=(⟨(aw 32 bi).z,9,0,(GS.mk ([x2]:List AE))⟩:AW);(Gv x4).bind fun x8=>(G7 x8.1).bind fun x11=>(G7 []).bind fun x16=>(Cr (decide (x8.2=0)) (some (decide (x11.2=0)))).bind fun x23=>(Cr x23 ((Ku x11.1 x4).bind fun x26=>some x26)).bind fun x27=>(Cr x27 (some (decide (x16.2=5)))).bind fun x29=>some x29
def kE(a:BG []):BE tb TH [] [du] a:=Ad<|Ah (Ay DT)<|Ag<|An (PC (t:=bi) (⟨[(1:UInt8),0,0,0,0,0,0,0,0,0,0,0,0,0,0,0,0,0,0,0,0,0,0,0,0,0,0,0,0,0,0,0],r_⟩:(Ar UInt8 32)) r_ (.cons (AN.at 32 bi 0 (by decide)) r_ (UF 1 r_)<| .nil _)) fun x1=>Ai (Ch r_ r_ (.cons D6 r_ Af<| .cons KY r_ (Cm 3 r_)<| .nil _)) fun x2=>Aj (M_bls (t:=A5) (n:=1) 1010 r_ r_ (.cons r_ Af<| .nil _) r_) fun x3=>gt 1010 r_ r_<|Ai (Ch r_ r_ (.cons Fv r_ AS<| .cons BK r_ Af<| .nil _)) fun x4=>Aj (Bj (t:=Az) 1 r_ r_) fun x5=>Aj (Bc Af Af r_ r_ (Ap _) r_) fun x6=>Ag<|An (A4 (t:=Az) (u:=Az) Af r_ r_ (Ap _) r_ r_) fun x7=>a7 (B4 NQ (.one Af)) fun x8=>Ab r_<|An (AU Af r_) fun x9=>An (AU Af r_) fun x10=>Ab r_<|Ab r_<|Ag<|Ab r_<|a7 (B4 Lt (.one Af)) fun x11=>Ab r_<|An (AU Af r_) fun x12=>An (AU Af r_) fun x13=>Aj (Bj (t:=Az) 4 r_ r_) fun x14=>Aj (Bc Af Af r_ r_ (Ap _) r_) fun x15=>Ab r_<|Ag<|a7 (B4 Lt (.one EN)) fun x16=>Ab r_<|An (AU Af r_) fun x17=>An (AU Af r_) fun x18=>Aj (Bj (t:=Az) 6 r_ r_) fun x19=>Aj (Bc Af Af r_ r_ (Ap _) r_) fun x20=>Ab r_<|Ag<|Ab r_<|Ai (A8 r_ Af AS) fun x21=>Ab r_<|gu 2 r_ r_ r_ (AR (Ay (Cq r_))<|AZ (A8 r_ Af AS) fun x22=>dh Af) fun x23=>Ab r_<|gu 3 r_ r_ r_ (Bw (A4 (t:=Az) (u:=Az) Af r_ r_ (Ap _) r_ r_) fun x24=>Bw (A4 (t:=Az) (u:=Az) Af r_ r_ (Ap _) r_ r_) fun x25=>jw (AI Zw (.cons Af<| .one Af)) fun x26=>dh Af) fun x27=>Ab r_<|gu 2 r_ r_ r_ (AR (Ay (Cq r_))<|AZ (A8 r_ Af AS) fun x28=>dh Af) fun x29=>Ab r_<|Ac<|a6 (.one (A7 r_))
theorem Ws:Spec tb KA [] [du] (fun a=>L2 ()):=
 Spec.of wF r_ r_ r_ kE
def M7(a0:AW):Option Bool:=(Uf a0).bind fun x2=>(FL x2 ((Qq a0).bind fun x4=>some (!x4))).bind fun x6=>if x6=true then (L2 ()).bind fun x7=>some x7 else (Gv a0).bind fun x9=>(G7 x9.1).bind fun x12=>(Cr (decide (x9.2=0)) (some (decide (x12.2=0)))).bind fun x19=>(Cr x19 ((Ku x12.1 a0).bind fun x22=>some x22)).bind fun x23=>(Cr x23 ((L2 ()).bind fun x24=>some x24)).bind fun x25=>some x25
def U8(a:BG [Az]):BE tb KQ [Az] [du] a:=Ad<|Aj (B3 (t:=Az) 1 r_ r_ Af) fun _=>Ah (Ay DT)<|Ag<|Ad<|An (A4 (t:=Az) (u:=Az) Af r_ r_ (Ap _) r_ r_) fun x1=>a7 (AI pH (.one Af)) fun x2=>Ab r_<|jx 3 r_ r_ r_ (Bw (A4 (t:=Az) (u:=Az) Af r_ r_ (Ap _) r_ r_) fun x3=>jw (AI pG (.one Af)) fun x4=>AZ (Df Af) fun x5=>dh Af) fun x6=>Ac<|ap Af (Ad<|a7 (AI Ws (.nil)) fun x7=>Ab r_<|Ac<|a6 (.one (A7 r_))) (av<|Ag<|An (A4 (t:=Az) (u:=Az) Af r_ r_ (Ap _) r_ r_) fun x8=>a7 (B4 NQ (.one Af)) fun x9=>Ab r_<|An (AU Af r_) fun x10=>An (AU Af r_) fun x11=>Ab r_<|Ab r_<|Ag<|Ab r_<|a7 (B4 Lt (.one Af)) fun x12=>Ab r_<|An (AU Af r_) fun x13=>An (AU Af r_) fun x14=>Aj (Bj (t:=Az) 5 r_ r_) fun x15=>Aj (Bc Af Af r_ r_ (Ap _) r_) fun x16=>Ab r_<|Ag<|Ab r_<|Ai (A8 r_ Af AS) fun x17=>Ab r_<|gu 2 r_ r_ r_ (AR (Ay (Cq r_))<|AZ (A8 r_ Af AS) fun x18=>dh Af) fun x19=>Ab r_<|gu 3 r_ r_ r_ (Bw (A4 (t:=Az) (u:=Az) Af r_ r_ (Ap _) r_ r_) fun x20=>Bw (A4 (t:=Az) (u:=Az) Af r_ r_ (Ap _) r_ r_) fun x21=>jw (AI Zw (.cons Af<| .one Af)) fun x22=>dh Af) fun x23=>Ab r_<|gu 1 r_ r_ r_ (jw (AI Ws (.nil)) fun x24=>dh Af) fun x25=>Ab r_<|Ac<|a6 (.one (A7 r_)))
theorem Vs:Spec tb Hw [Az] [du] (fun a=>M7 a):=
 Spec.of Xk r_ r_ r_ U8
def Qu(a0:AP)(a1:UInt8):Option (GS AP):=(iter (fun(s1:(Int×Int×(GS AP)))=>if(decide (s1.2.1<(a0.length:Int)))=true then (DN a0 s1.2.1).bind fun x5=>if(decide ((x5.toNat:Int)=(a1.toNat:Int)))=true then (IW a0 (some s1.1) (some s1.2.1)).bind fun x7=>(SS 16 s1.2.2 [x7]).bind fun x9=>some (.inl (tx tz (s1.2.1+1),tx tz (s1.2.1+1),x9)) else some (.inl (s1.1,tx tz (s1.2.1+1),s1.2.2)) else some (.inr (.inl (s1.1,s1.2.2)))) (0,0, .nil)).bind (bd (fun(p2:(Int×(GS AP)))=>(IW a0 (some p2.1) none).bind fun x13=>(SS 16 p2.2 [x13]).bind fun x15=>some x15) some)
def cB(a0:AP)(a1:UInt8):Option Bool:=(Qu a0 a1).bind fun x1=>some (decide (1<(x1.l.length:Int)))
def Lx(a0:AP):Option (CW×Int):=if(decide (512<(a0.length:Int)))=true then some ((⟨[],[]⟩:CW),4) else (Qu a0 (61:UInt8)).bind fun x6=>(DN x6.l 0).bind fun x7=>(FL (decide (x7=[])) ((cB a0 (61:UInt8)).bind fun x10=>some (!x10))).bind fun x12=>(FL x12 ((cB a0 (10:UInt8)).bind fun x13=>some x13)).bind fun x14=>if x14=true then some ((⟨[],[]⟩:CW),5) else (IW a0 (some (tx tz ((x7.length:Int)+1))) none).bind fun x19=>some ((⟨x7,x19⟩:CW),0)
def NW(a0:AP):Option ((GS CW)×Int):=(Qu a0 (10:UInt8)).bind fun x1=>(FL (decide ((x1.l.length:Int)<2)) ((DN x1.l (tx tz ((x1.l.length:Int)-1))).bind fun x5=>some (!decide (x5=[])))).bind fun x8=>(FL x8 ((DN x1.l (tx tz ((x1.l.length:Int)-2))).bind fun x10=>some (!decide (x10=[])))).bind fun x13=>if x13=true then some (.nil,5) else (slG x1 none (some (tx tz ((x1.l.length:Int)-2)))).bind fun x15=>(iter (fun(s16:Int)=>if(decide (s16<(x15.l.length:Int)))=true then (DN x15.l s16).bind fun x20=>if(decide (x20=[]))=true then (some (.nil,5)).map fun r=> .inr (.inr r) else some (.inl (tx tz (s16+1))) else some (.inr (.inl ()))) 0).bind (bd (fun(p17:Unit)=>if(decide (400<(x15.l.length:Int)))=true then some (.nil,4) else (iter (fun(s26:(Int×(GS CW)))=>if(decide (s26.1<(x15.l.length:Int)))=true then (DN x15.l s26.1).bind fun x30=>(Lx x30).bind fun x32=>if(!decide (x32.2=0))=true then (some (.nil,x32.2)).map fun r=> .inr (.inr r) else (SS 32 s26.2 [x32.1]).bind fun x40=>some (.inl (tx tz (s26.1+1),x40)) else some (.inr (.inl s26.2))) (0, .nil)).bind (bd (fun(p27:(GS CW))=>some (p27,0)) some)) some)
end

section
theorem UR{x:Int}(h0: -9223372036854775808≤x)(h1:x<9223372036854775808):tx tz x=x:=lV h0 h1
theorem WX{n k:Nat}(h:n<k):Dl k (n:Int)=some n:=E7 h
theorem tM{β ρ:Type}{k n:Nat}{F:Int→Option (Int⊕(Unit⊕β))}{K:Unit⊕β→Option ρ}(q:Nat→Option β)(hk:k≤n)(hn:n<4611686018427387904)(h1: ∀i:Nat,k≤i→i<n→F (i:Int)=some (match q i with|none=> .inl (tx tz ((i:Int)+1))|some b=> .inr (.inr b)))
  (h2:F (n:Int)=some (.inr (.inl ()))):(iter F (k:Int)).bind K=(match(dp k (n-k)).findSome? q with|none=>K (.inl ())|some b=>K (.inr b)):=by
 refine CP (fun s=>n-s.toNat) (fun s=> ∃i:Nat,s=i∧k≤i∧i≤n∧ ∀j,k≤j→j<i→q j=none)
  (fun r=>(r= .inl ()∧ ∀j,k≤j→j<n→q j=none)∨ ∃b,r= .inr b∧(dp k (n-k)).findSome? q=some b) ⟨k,rfl,bc _,hk,by omega⟩ ?_ ?_
 ·rintro s ⟨i,rfl,hki,hi,hq⟩;rcases ef i n with hlt|hge
  ·rw[h1 i hki hlt];cases e:q i with
   |none=>
    left;refine⟨_,rfl,⟨i+1,?_,by omega,by omega,fun j hj1 hj=> ?_⟩,?_⟩
    ·rw[show(i:Int)+1=((i+1:Nat):Int) by omega,B6 (by omega)]
    ·rcases ef j i with h|h
     ·exact hq j hj1 h
     ·obtain rfl:j=i:=by omega
      exact e
    ·rw[show(i:Int)+1=((i+1:Nat):Int) by omega,B6 (by omega)];omega
   |some b=>
    right;refine⟨_,rfl, .inr ⟨b,rfl,?_⟩⟩;have:dp k (n-k)=dp k (i-k)++i::dp (i+1) (n-(i+1)):=by
     rw[show n-k=(i-k)+(1+(n-(i+1))) by omega,←nu,←nu];simp only[List.range'_one,gb,List.append_cancel_left_eq];rw[show k+(i-k)=i by omega]
    rw[this,List.findSome?_append,gn.2 (fun j hj=>by
     rw[dx]at hj;exact hq j hj.1 (by omega))]
    simp[e]
  ·obtain rfl:i=n:=by omega
   right;exact⟨_,h2, .inl ⟨rfl,hq⟩⟩
 ·rintro _ (⟨rfl,h⟩|⟨b,rfl,h⟩)
  ·rw[gn.2 (fun j hj=>by rw[dx]at hj;exact h j hj.1 (by omega))]
  ·rw[h]
theorem cmpA(x y:AG):Iw FY x y=decide (x=y):=
 if h:x=y then(Mz (t:=Ao) h).trans (ua h).symm else(cI (t:=Ao) h).trans (ub h).symm
theorem cmpE(x y:AJ):Iw Em x y=decide (x=y):=
 if h:x=y then(Mz (t:=Aw) h).trans (ua h).symm else(cI (t:=Aw) h).trans (ub h).symm
theorem xC(x y:Av):Iw DA x y=decide (x=y):=
 if h:x=y then(Mz (t:=Al) h).trans (ua h).symm else(cI (t:=Al) h).trans (ub h).symm
def Dm(a:AG):Bool:=decide (a.V=6∨(a.V=4∧a.B.l.drop 4=az 12 0))
theorem four_val(b0 b1 b2 b3:UInt8)(h:[b0,b1,b2,b3].length=4):LL ⟨[b0,b1,b2,b3],h⟩=some ⟨4,⟨[b0,b1,b2,b3,0,0,0,0,0,0,0,0,0,0,0,0],rfl⟩⟩:=by
 unfold LL
 rfl
theorem four_val'(b0 b1 b2 b3 b4 b5 b6 b7 b8 b9 b10 b11 b12 b13 b14 b15:UInt8)(h:(([b0,b1,b2,b3,b4,b5,b6,b7,b8,b9,b10,b11,b12,b13,b14,b15].drop 0).take 4).length=4):
  LL ⟨([b0,b1,b2,b3,b4,b5,b6,b7,b8,b9,b10,b11,b12,b13,b14,b15].drop 0).take 4,h⟩=some ⟨4,⟨[b0,b1,b2,b3,0,0,0,0,0,0,0,0,0,0,0,0],rfl⟩⟩:=four_val b0 b1 b2 b3 rfl
theorem bytes16{p:AG→Prop}(h: ∀(V:Int) (b0 b1 b2 b3 b4 b5 b6 b7 b8 b9 b10 b11 b12 b13 b14 b15:UInt8),p ⟨V,⟨[b0,b1,b2,b3,b4,b5,b6,b7,b8,b9,b10,b11,b12,b13,b14,b15],rfl⟩⟩): ∀a,p a:=by
 rintro⟨V,⟨l,hl⟩⟩
 match l,hl with
 |[b0,b1,b2,b3,b4,b5,b6,b7,b8,b9,b10,b11,b12,b13,b14,b15],_=>exact h V b0 b1 b2 b3 b4 b5 b6 b7 b8 b9 b10 b11 b12 b13 b14 b15
theorem LK(a:AG):I5 a=some (Dm a):=by
 revert a;refine bytes16 fun V b0 b1 b2 b3 b4 b5 b6 b7 b8 b9 b10 b11 b12 b13 b14 b15=> ?_;unfold I5
 by_cases h6:V=6
 ·simp[h6,FL,Dm]
 ·by_cases hv:V=4
  ·subst hv;have e4:((4:Int)=6)=False:=by simp
   simp only[FL,Cr,e4,decide_false,ah,ud,decide_true,uc,four_val',aa,cmpA,Dm];congr 1;simp[AG.mk.injEq,Ar.mk.injEq,az]
  ·simp[h6,hv,FL,Cr,Dm]
theorem nS(B:Ar UInt8 16){i:Nat}(h:i<16): ∃b,B.l[i]? =some b:=⟨B.l[i]'(by rw[B.len];exact h),ab _⟩
theorem Uh(a:AG):Ly a=some (Dm a):=by
 unfold Ly
 by_cases h6:a.V=6
 ·simp[h6,Dm]
 ·rw[t7 (by simpa using h6)];rw[show(4:Int)=((4:Nat):Int)from rfl,tM (n:=16) (fun i=>if a.B.l[i]? =some 0 then none else some false) (by decide) (by decide)]
  ·cases e:(dp 4 (16-4)).findSome? (fun i=>if a.B.l[i]? =some 0 then none else some false)with
   |none=>
    simp only[dw];have hz:a.B.l.drop 4=az 12 0:=by
     apply ew;intro i;rw[gj];rcases ef i 12 with hi|hi
     ·have:=gn.1 e (4+i) (by rw[dx];omega);rw[ky,t6 hi]
      by_cases h:a.B.l[4+i]? =some 0
      ·exact h
      ·simp[h]at this
     ·rw[dk (by rw[a.B.len];omega),dk (by simp;omega)]
    simp[Dm,h6,hz]
   |some b=>
    obtain⟨i,hi,h'⟩:=gf e;rw[dx]at hi;have hb:b=false:=by split at h'<;>simp_all
    subst hb;simp only[pl];have: ¬a.B.l.drop 4=az 12 0:=fun hz=>by
     have h:=ue (fun l=>l[i-4]?) hz;simp only[gj,ky]at h;rw[show 4+(i-4)=i by omega,t6 (by omega)]at h;rw[h]at h';simp at h'
    have hr:Dm a=false:=ub (by
     rintro(h|⟨_,h⟩)
     ·exact h6 h
     ·exact this h)
    rw[hr]
  ·intro i h4 hi;obtain⟨b,hb⟩:=nS a.B hi;rw[t6 (by simp;omega),WX hi,aa,hb];simp only[aa,ae];have e0:((b.toNat:Int)=((0:UInt8).toNat:Int))↔b=0:=by
    constructor
    ·intro h;exact ii.1 (by exact_mod_cast h)
    ·rintro rfl;rfl
   by_cases h:b=0
   ·simp[h]
   ·simp only[e0,h,decide_false,ju,uc,ud];rfl
  ·rw[t7 (by decide)]
def CI(a:AG):Nat:=if Dm a=true then(if a.V=4 then 32 else 128)else 0
theorem O5(a:AG):H4 a=some (CI a:Int):=by
 unfold H4 CI;rw[LK];cases Dm a with
 |false=>simp
 |true=>by_cases h:a.V=4<;>simp[h]
theorem mN(a:AG):Qt a=some (CI a:Int):=by
 unfold Qt CI;rw[Uh];cases Dm a with
 |false=>simp
 |true=>by_cases h:a.V=4<;>simp[h]
def To(b:UInt8)(k:Nat):UInt8:=bb (b.toNat/2^(8-k)*2^(8-k))
def MX(l:List UInt8)(n:Nat):List UInt8:=l.mapIdx fun i b=>To b (min (n-8*i) 8)
theorem L1(l:List UInt8)(n:Nat):(MX l n).length=l.length:=by simp[MX]
theorem Qz(l:List UInt8)(n i:Nat):(MX l n)[i]? =l[i]?.map fun b=>To b (min (n-8*i) 8):=by simp[MX,List.getElem?_mapIdx]
def shlN(k:Nat):UInt8:=Kx (((255:UInt8).toNat:Int)*2^(min k 8))
def andN(b k:Nat):UInt8:=Kx (FF .and .u8 (b:Int) ((shlN k).toNat:Int))
theorem and_mask: ∀(b:Fin 256) (k:Fin 9),andN b.1 (8-k.1)=To (bb b.1) k.1:=by decide+kernel
def addN(x:UInt8)(n:Nat):UInt8:=Kx ((x.toNat:Int)+((Kx (n:Int)).toNat:Int))
theorem mask_step: ∀(b:Fin 256) (r:Fin 8),To (bb b.1) (r.1+1)=(if b.1/2^(7-r.1)%2=1 then addN (To (bb b.1) r.1) (128/2^r.1)else To (bb b.1) r.1):=by decide+kernel
theorem mask_none(b:UInt8):To b 0=0:=by
 have:=b.toNat_lt;unfold To;rw[show b.toNat/2^(8-0)=0 by rw[Nat.div_eq_of_lt];simpa using this];simp
theorem Iq(b:UInt8):bb b.toNat=b:=by simp
theorem u64N{m:Nat}(h:m<18446744073709551616):(Cw (m:Int)).toNat=m:=by
 unfold Cw;rw[show((m:Int)%18446744073709551616).toNat=m by omega];simp[UInt64.toNat_ofNat,h]
theorem oR(a:AG)(n:Nat)(hn:n≤1000)(hr:Dm a=true):Uy a (n:Int)=some ⟨a.V,⟨MX a.B.l n,by rw[L1,a.B.len]⟩⟩:=by
 unfold Uy;simp only[LK,hr,aa,cq,ah,ud];refine CP (fun s=>16-s.1.toNat) (fun s=> ∃i:Nat,s.1=i∧i≤16∧s.2.V=a.V∧ ∀j:Nat,s.2.B.l[j]? =if j<i then(MX a.B.l n)[j]? else a.B.l[j]?)
  (fun r=>r= .inl ⟨a.V,⟨MX a.B.l n,by rw[L1,a.B.len]⟩⟩) ⟨0,rfl,by omega,rfl,fun j=>by simp⟩ ?_ ?_
 rotate_left
 ·rintro _ rfl;rfl
 ·rintro⟨s,⟨V,B⟩⟩ ⟨i,rfl,h1,h2,h3⟩;dsimp only at h2 h3 ⊢;subst h2
  by_cases hi:i<16
  ·left;obtain⟨b,hb⟩:=nS a.B hi;have hBi:B.l[i]? =some b:=by rw[h3,t7 (by omega)];exact hb
   rw[t6 (by simp;omega)];have hw:tx tz ((n:Int)-tx tz (8*(i:Int)))=(n:Int)-8*(i:Int):=by rw[UR (x:=8*(i:Int)) (by omega) (by omega),UR (by omega) (by omega)]
   have hx:(if 8<(if(0:Int)>(n:Int)-8*(i:Int)then 0 else(n:Int)-8*(i:Int))then 8 else(if(0:Int)>(n:Int)-8*(i:Int)then 0 else(n:Int)-8*(i:Int)))=((min (n-8*i) 8:Nat):Int):=by
    split<;>split<;>omega
   have hk:min (n-8*i) 8<9:=by omega
   have h8:tx tz (8-((min (n-8*i) 8:Nat):Int))=((8-min (n-8*i) 8:Nat):Int):=by rw[UR (by omega) (by omega)];omega
   have h9:(Cw (((8-min (n-8*i) 8:Nat):Int))).toNat=8-min (n-8*i) 8:=u64N (by omega);have hm:=and_mask ⟨b.toNat,b.toNat_lt⟩ ⟨min (n-8*i) 8,hk⟩;simp only[andN,shlN,Iq]at hm;simp only[hw,hx];rw[t7 (show¬decide ((n:Int)<0)=true by simp)];simp only[aa,dw,WX hi,hBi,h8,h9];rw[t7 (by omega)];simp only[aa,m6,t6 hi];refine⟨_,rfl,⟨i+1,by dsimp only;rw[UR (by omega) (by omega)];omega,by omega,rfl,fun j=> ?_⟩,by dsimp only;rw[UR (by omega) (by omega)];omega⟩;dsimp only[Ar.set];rw[i7]
   by_cases hj:i=j
   ·subst hj;rw[t6 rfl,t6 (by rw[B.len];exact hi),t6 (by omega),Qz,hb,ak];exact ue some hm
   ·rw[t7 hj,h3]
    by_cases hji:j<i
    ·rw[t6 hji,t6 (by omega)]
    ·rw[t7 hji,t7 (by omega)]
  ·obtain rfl:i=16:=by omega
   right;rw[t7 (by simp)];refine⟨_,rfl,?_⟩;congr 2;apply pi;apply ew;intro j;dsimp only;rw[h3]
   by_cases hj:j<16
   ·rw[t6 hj]
   ·rw[t7 hj,dk (by rw[a.B.len];omega),dk (by rw[L1,a.B.len];omega)]
theorem td8{i:Nat}(h:i<1000):(if(8:Nat)=0 then none else some (tx tz (jt (i:Int) 8)))=some ((i/8:Nat):Int):=by
 rw[t7 (by decide),show(8:Int)=((8:Nat):Int)from rfl,←m7,B6 (by omega)]
theorem tm8{i:Nat}:(if(8:Nat)=0 then none else some (j6 (i:Int) 8))=some ((i%8:Nat):Int):=by
 rw[t7 (by decide),show(8:Int)=((8:Nat):Int)from rfl,←oj]
theorem td2{i:Nat}(h:i<1000):(if(2:Nat)=0 then none else some (tx tz (jt (i:Int) 2)))=some ((i/2:Nat):Int):=by
 rw[t7 (by decide),show(2:Int)=((2:Nat):Int)from rfl,←m7,B6 (by omega)]
theorem tm2{i:Nat}:(if(2:Nat)=0 then none else some (j6 (i:Int) 2))=some ((i%2:Nat):Int):=by
 rw[t7 (by decide),show(2:Int)=((2:Nat):Int)from rfl,←oj]
theorem kN(a:AG)(i:Nat)(hi:i<128)(b:UInt8)(hb:a.B.l[i/8]? =some b):Ui a (i:Int)=some ((b.toNat/2^(7-i%8)%2:Nat):Int):=by
 have hbl:=b.toNat_lt;unfold Ui;rw[td8 (by omega)];simp only[aa,WX (show i/8<16 by omega),hb];refine CP (fun s=>s.2.toNat) (fun s=> ∃m:Nat,m≤7-i%8∧s.1=((b.toNat/2^m:Nat):Int)∧s.2=((7-m:Nat):Int)) (fun r=>r= .inl ((b.toNat/2^(7-i%8):Nat):Int)) ⟨0,by omega,by rw[B6 (by omega)];simp,rfl⟩ ?_ ?_
 ·rintro⟨s,k⟩ ⟨m,h1,h2,h3⟩;dsimp only at h2 h3 ⊢;subst h2 h3;have hle:b.toNat/2^m≤b.toNat:=lb _ _;rw[tm8];simp only[aa]
  by_cases hm:m<7-i%8
  ·left;rw[t6 (by rw[t8];omega),td2 (by omega)];simp only[aa];refine⟨_,rfl,⟨m+1,by omega,?_,?_⟩,?_⟩
   ·dsimp only;rw[k9,←i8]
   ·dsimp only;rw[UR (by omega) (by omega)];omega
   ·dsimp only;rw[UR (by omega) (by omega)];omega
  ·right;obtain rfl:m=7-i%8:=by omega
   rw[t7 (by rw[t8];omega)];exact⟨_,rfl,rfl⟩
 ·rintro _ rfl;simp only[dw,tm2,aa]
theorem pow_val{β γ:Type}{r:Nat}(hr:r<8){K:(Int⊕β)→Option γ}{F:Int×Int→Option ((Int×Int)⊕(Int⊕β))}(hF: ∀m k:Nat,m<1000→k≤8→F ((m:Int),(k:Int))=if k<r then some (.inl (((m/2:Nat):Int),((k+1:Nat):Int)))else some (.inr (.inl (m:Int)))):
  (iter F (128,0)).bind K=K (.inl ((128/2^r:Nat):Int)):=by
 refine CP (fun s=>8-s.2.toNat) (fun s=> ∃k:Nat,k≤r∧s.1=((128/2^k:Nat):Int)∧s.2=(k:Int)) (fun q=>q= .inl ((128/2^r:Nat):Int)) ⟨0,by omega,rfl,rfl⟩ ?_ ?_
 ·rintro⟨s,k⟩ ⟨m,h1,h2,h3⟩;dsimp only at h2 h3 ⊢;subst h2 h3;have hle:128/2^m≤128:=lb _ _;rw[hF _ _ (by omega) (by omega)]
  by_cases hm:m<r
  ·left;rw[t6 hm];refine⟨_,rfl,⟨m+1,by omega,?_,rfl⟩,by dsimp only;omega⟩;dsimp only;rw[k9,←i8]
  ·right;obtain rfl:m=r:=by omega
   rw[t7 (by omega)];exact⟨_,rfl,rfl⟩
 ·rintro _ rfl;rfl
theorem r10_mask(a:AG)(n:Nat)(hn:n≤CI a)(hr:Dm a=true):WH a (n:Int)=some ⟨a.V,⟨MX a.B.l n,by rw[L1,a.B.len]⟩⟩:=by
 have hw:CI a≤128:=by unfold CI;split<;>(try split)<;>omega
 unfold WH;simp only[Uh,mN,hr,aa,cq,ah,ud];refine CP (fun s=>128-s.1.toNat) (fun s=> ∃i:Nat,s.1=i∧i≤n∧s.2.V=a.V∧s.2.B.l=MX a.B.l i)
  (fun r=>r= .inl ⟨a.V,⟨MX a.B.l n,by rw[L1,a.B.len]⟩⟩) ⟨0,rfl,by omega,rfl,?_⟩ ?_ ?_
 ·apply ew;intro j;rw[Qz];show(az 16 (0:UInt8))[j]? =_;rw[ky]
  by_cases hj:j<16
  ·obtain⟨b,hb⟩:=nS a.B hj;rw[t6 hj,hb,ak,show min (0-8*j) 8=0 by omega,mask_none]
  ·rw[t7 hj,dk (by rw[a.B.len];omega)];rfl
 ·rintro⟨s,⟨V,B⟩⟩ ⟨i,rfl,h1,h2,h3⟩;dsimp only at h2 h3 ⊢;subst h2
  by_cases hi:i<n
  ·left;obtain⟨b,hb⟩:=nS a.B (show i/8<16 by omega);have ht:Cr (decide ((i:Int)<(CI a:Int))) (some (decide ((i:Int)<(n:Int))))=some true:=by
    rw[ua (by omega),ua (by omega)];rfl
   have hBb:B.l[i/8]? =some (To b (i%8)):=by
    rw[h3,Qz,hb,ak,show min (i-8*(i/8)) 8=i%8 by omega]
   have hstep:=mask_step ⟨b.toNat,b.toNat_lt⟩ ⟨i%8,by omega⟩;simp only[addN,Iq]at hstep;have hnext: ∀(c:UInt8),c=To b (i%8+1)→B.l.set (i/8) c=MX a.B.l (i+1):=by
    rintro c rfl;apply ew;intro j;rw[i7,Qz]
    by_cases hj:i/8=j
    ·subst hj;rw[t6 rfl,t6 (by rw[B.len];omega),hb,ak,show min (i+1-8*(i/8)) 8=i%8+1 by omega]
    ·rw[t7 hj,h3,Qz,show min (i+1-8*j) 8=min (i-8*j) 8 by omega]
   have hwi:tx tz ((i:Int)+1)=((i+1:Nat):Int):=by rw[UR (by omega) (by omega)];omega
   simp only[ht,aa,uc,kN a i (by omega) b hb]
   by_cases hd:b.toNat/2^(7-i%8)%2=1
   ·rw[t6 hd]at hstep;rw[t6 (by rw[t8];omega)];rw[pow_val (r:=i%8) (by omega) (fun m k hm hk=>by
     rw[tm8];simp only[aa]
     by_cases hkr:k<i%8
     ·rw[t6 (by rw[t8];omega),t6 hkr,td2 (by omega)];simp only[aa];rw[UR (by omega) (by omega)];rfl
     ·rw[t7 (by rw[t8];omega),t7 hkr])]
    simp only[dw,td8 (show i<1000 by omega),aa,WX (show i/8<16 by omega),hBb,t6 (show i/8<16 by omega),hwi];refine⟨_,rfl,⟨i+1,rfl,by omega,rfl,?_⟩,by dsimp only;omega⟩;exact hnext _ hstep.symm
   ·rw[t7 hd]at hstep;rw[t7 (by rw[t8];omega),hwi];refine⟨_,rfl,⟨i+1,rfl,by omega,rfl,?_⟩,by dsimp only;omega⟩;dsimp only;rw[←hnext (To b (i%8)) hstep.symm];exact(ew fun j=>by
     rw[i7]
     by_cases hj:i/8=j
     ·subst hj;rw[t6 rfl,t6 (by rw[B.len];omega),hBb]
     ·rw[t7 hj])
  ·obtain rfl:i=n:=by omega
   right;have ht:Cr (decide ((i:Int)<(CI a:Int))) (some (decide ((i:Int)<(i:Int))))=some false:=by
    rw[ub (show¬(i:Int)<(i:Int) by omega)];cases decide ((i:Int)<(CI a:Int))<;>rfl
   simp only[ht,aa,ah,ud];refine⟨_,rfl,?_⟩;congr 2;exact pi h3
 ·rintro _ rfl;rfl
def HQ(p:Av):Bool:=Dm p.A&&(decide (0≤p.Bits∧p.Bits≤(CI p.A:Int))&&decide (MX p.A.B.l p.Bits.toNat=p.A.B.l))
theorem Qc(a:AG):CI a≤128:=by unfold CI;split<;>(try split)<;>omega
theorem RA(p:Av):JT p=some (HQ p):=by
 obtain⟨a,n⟩:=p;have hw:=Qc a;unfold JT RC;simp only[LK,O5,aa,HQ];cases hr:Dm a with
 |false=>simp[Cr]
 |true=>
  simp only[cq,ah,ud,kf]
  by_cases h0:n<0
  ·have:FL (decide (n<0)) (some (decide ((CI a:Int)<n)))=some true:=by rw[ua h0];rfl
   have hf:decide (0≤n∧n≤(CI a:Int))=false:=ub (by omega);simp[this,hf,Cr]
  ·by_cases h1:(CI a:Int)<n
   ·have:FL (decide (n<0)) (some (decide ((CI a:Int)<n)))=some true:=by rw[ub h0,ua h1];rfl
    have hf:decide (0≤n∧n≤(CI a:Int))=false:=ub (by omega);simp[this,hf,Cr]
   ·have:FL (decide (n<0)) (some (decide ((CI a:Int)<n)))=some false:=by rw[ub h0,ub h1];rfl
    have hf:decide (0≤n∧n≤(CI a:Int))=true:=ua (by omega);obtain⟨m,rfl⟩: ∃m:Nat,n=m:=⟨n.toNat,by omega⟩;simp only[this,hf,aa,ah,ud,oR a m (by omega) hr,decide_true,Cr,uc,xC,kf,m6];congr 1;rw[decide_eq_decide];constructor
    ·intro e;have:=ue (fun x:Av=>x.A.B.l) e;exact this
    ·intro e;obtain⟨V,B⟩:=a;congr 2;exact pi e
theorem Ug(p:Av):N8 p=some (HQ p):=by
 obtain⟨a,n⟩:=p;have hw:=Qc a;unfold N8;simp only[Uh,mN,aa,HQ];cases hr:Dm a with
 |false=>simp[FL]
 |true=>
  simp only[cq,kf]
  by_cases h0:n<0
  ·have hf:decide (0≤n∧n≤(CI a:Int))=false:=ub (by omega);simp[FL,hf,h0]
  ·by_cases h1:(CI a:Int)<n
   ·have hf:decide (0≤n∧n≤(CI a:Int))=false:=ub (by omega);simp[FL,hf,h0,h1]
   ·have hf:decide (0≤n∧n≤(CI a:Int))=true:=ua (by omega);obtain⟨m,rfl⟩: ∃m:Nat,n=m:=⟨n.toNat,by omega⟩;simp only[FL,ah,ud,aa,ub h0,ub h1,hf,r10_mask a m (by omega) hr,cmpA,kf,m6];congr 1;rw[decide_eq_decide];constructor
    ·intro e;exact(ue (fun x:AG=>x.B.l) e).symm
    ·intro e;obtain⟨V,B⟩:=a;congr 1;exact(pi e).symm
def Vd(a b:List UInt8)(i:Nat):Option Bool:=if a[i]? =b[i]? then none else some (decide (((a[i]?).getD 0).toNat<((b[i]?).getD 0).toNat))
def lessL(a b:List UInt8):Bool:=((dp 0 16).findSome? (Vd a b)).getD false
def uT(a b:AG):Bool:=if a.V=b.V then lessL a.B.l b.B.l else decide (a.V<b.V)
theorem nV{p:Nat→Bool}{q:Nat→Option Bool}: ∀{l:List Nat},(∀i∈l,(q i).isSome=p i)→l.findSome? q=(l.find? p).bind q
 |[],_=>rfl
 |x::l,h=>by
  have hx:=h x (by simp);rw[List.findSome?_cons,qe];cases hq:q x with
  |none=>rw[hq]at hx;simp only[rj]at hx;rw[←hx];exact nV fun i hi=>h i (by simp[hi])
  |some b=>rw[hq]at hx;simp only[Option.isSome_some]at hx;rw[←hx];simp[hq]
theorem cmp_less(a b:List UInt8)(ha:a.length=16)(hb:b.length=16):decide (iF a b<0)=lessL a b:=by
 unfold iF jk lessL;have hga: ∀i,i<16→(⟨a.toArray⟩:ByteArray)[i]! =(a[i]?).getD 0:=fun i hi=>by
  rw[getElem!_pos (⟨a.toArray⟩:ByteArray) i (by show i<a.toArray.size;simp[ha,hi]),ab (show i<a.length by omega)]
  rfl
 have hgb: ∀i,i<16→(⟨b.toArray⟩:ByteArray)[i]! =(b[i]?).getD 0:=fun i hi=>by
  rw[getElem!_pos (⟨b.toArray⟩:ByteArray) i (by show i<b.toArray.size;simp[hb,hi]),ab (show i<b.length by omega)]
  rfl
 have hsa:(⟨a.toArray⟩:ByteArray).size=16:=by simp[lw,ha]
 have hsb:(⟨b.toArray⟩:ByteArray).size=16:=by simp[lw,hb]
 rw[hsa,hsb,nn];have hfs:(dp 0 16).findSome? (Vd a b)=((dp 0 16).find? fun i=>(⟨a.toArray⟩:ByteArray)[i]! != (⟨b.toArray⟩:ByteArray)[i]!).bind (Vd a b):=by
  refine nV fun i hi=> ?_;rw[dx]at hi;rw[hga i (by omega),hgb i (by omega)];rw[ab (show i<a.length by omega),ab (show i<b.length by omega)];unfold Vd;rw[ab (show i<a.length by omega),ab (show i<b.length by omega)]
  by_cases e:a[i]=b[i]<;>simp[e]
 rw[hfs];simp only[Nat.min_self];cases e:(dp 0 16).find? fun i=>(⟨a.toArray⟩:ByteArray)[i]! != (⟨b.toArray⟩:ByteArray)[i]! with
 |none=>simp
 |some i=>
  have hi:=List.mem_of_find?_eq_some e;rw[dx]at hi;have hne:=List.find?_some e;rw[hga i (by omega),hgb i (by omega)]at hne;have hq:Vd a b i=some (decide (((a[i]?).getD 0).toNat<((b[i]?).getD 0).toNat)):=by
   unfold Vd;rw[t7];intro h;rw[h]at hne;simp at hne
  simp only[aa,hq,io,hga i (by omega),hgb i (by omega)]
  by_cases h:(a[i]?).getD 0<(b[i]?).getD 0
  ·rw[t6 h];simp[ql.1 h]
  ·rw[t7 h];have: ¬((a[i]?).getD 0).toNat<((b[i]?).getD 0).toNat:=fun g=>h (ql.2 g);simp[this]
theorem addr_less(a b:AG):Uz a b=some (uT a b):=by
 unfold Uz uT
 by_cases h:a.V=b.V
 ·have h1:(a.B.l.drop 0).take 16=a.B.l:=au (by rw[dq,a.B.len];exact bc _);have h2:(b.B.l.drop 0).take 16=b.B.l:=au (by rw[dq,b.B.len];exact bc _);have hb:Me (.mk a.B.l) (.mk b.B.l)=some (iF a.B.l b.B.l):=by simp only[Me,G4,aa,C0]
  rw[h1,h2,hb];simp only[h,decide_true,cq,ah,ud,uc,dc,bc,and_self,aa];exact ue some (cmp_less _ _ a.B.len b.B.len)
 ·simp[h]
theorem r10_less(a b:AG):WI a b=some (uT a b):=by
 unfold WI uT
 by_cases h:a.V=b.V
 ·simp only[h,decide_true,cq,ah,ud,uc];rw[show(0:Int)=((0:Nat):Int)from rfl,tM (n:=16) (Vd a.B.l b.B.l) (by decide) (by decide)]
  ·unfold lessL;cases (dp 0 (16-0)).findSome? (Vd a.B.l b.B.l)<;>rfl
  ·intro i _ hi;obtain⟨x,hx⟩:=nS a.B hi;obtain⟨y,hy⟩:=nS b.B hi;rw[t6 (by simp;omega)];have hq:Vd a.B.l b.B.l i=if x=y then none else some (decide (x.toNat<y.toNat)):=by
    unfold Vd;rw[hx,hy];simp
   simp only[WX hi,aa,hx,hy,hq];have e0:((x.toNat:Int)=(y.toNat:Int))↔x=y:=⟨fun h=>ii.1 (by exact_mod_cast h),fun h=>by rw[h]⟩
   by_cases e:x=y
   ·simp[e]
   ·have e1:decide ((x.toNat:Int)<(y.toNat:Int))=decide (x.toNat<y.toNat):=by rw[decide_eq_decide];omega
    simp only[e0,e,decide_false,ju,uc,ud,e1];rfl
  ·rw[t7 (by simp)]
 ·simp[h]
def Z8(p q:Av):Bool:=if p.A=q.A then decide (p.Bits<q.Bits)else uT p.A q.A
theorem cidr_less(p q:Av):QK p q=some (Z8 p q):=by
 unfold QK Z8
 by_cases h:p.A=q.A<;>simp[cmpA,h,addr_less]
theorem tX(p q:Av):Qs p q=some (Z8 p q):=by
 unfold Qs Z8
 by_cases h:p.A=q.A<;>simp[cmpA,h,r10_less]
def HR(e:AJ):Bool:=Dm e.A&&(decide (1≤e.Port)&&decide (e.Port≤65535))
theorem VI(e:AJ):ER e=some (HR e):=by
 unfold ER HR;rw[LK];cases Dm e.A<;>by_cases h1:1≤e.Port<;>simp[Cr,h1]
theorem r12_right(e:AJ):Qr e=some (HR e):=by
 unfold Qr HR;rw[Uh];cases Dm e.A<;>by_cases h1:1≤e.Port<;>simp[Cr,h1]
theorem nN(e:AJ):G5 e=some (decide (e=⟨Ao.z,0⟩)):=by
 unfold G5;rw[cmpE]
end
section
theorem P9(l:AP)(c:UInt8):DV l c=some (MZ l c):=rfl
theorem Xv(l:AP)(c:UInt8)(hl:l.length<1099511627776):((∀x∈l,x≠c)∧Fc l c=some (l,[],false))∨ ∃p q,l=p++c::q∧(∀x∈p,x≠c)∧Fc l c=some (p,q,true):=by
 rcases Pn l c with ⟨h,e⟩|⟨p,q,rfl,h,e⟩
 ·left;exact⟨h,by simp[Fc,P9,e]⟩
 ·right;refine⟨p,q,rfl,h,?_⟩;have hlen:(p++c::q).length=p.length+(q.length+1):=by simp
  simp only[Fc,P9,e,aa];rw[t7 (by simp),TZ (by omega),show(p.length:Int)+1=((p.length+1:Nat):Int) by omega,B6 (by omega),HD (by omega)];simp[me]
theorem parts_val(l:AP)(c:UInt8)(hl:l.length<1073741824):OY l c=some (.mk (AT c l)):=by
 unfold OY;rw[fM (b:= .inr (.mk (AT c l))) (fun s=>s.1.length) (fun s=>s.2.l++AT c s.1=AT c l∧s.1.length+s.2.l.length≤l.length)]
 ·rfl
 ·rintro⟨s,g⟩ ⟨h1,h2⟩;dsimp only at h1 h2 ⊢;have hap: ∀x,SS 16 g [x]=some (.mk (g.l++[x])):=fun x=>JE (by unfold Ci;omega);rcases Xv s c (by omega)with ⟨hn,e⟩|⟨p,q,rfl,hn,e⟩
  ·right;simp only[e,aa,hap];rw[Gn hn]at h1;simp[h1]
  ·left;refine⟨(q, .mk (g.l++[p])),?_,?_,?_⟩
   ·simp only[e,aa,hap];simp
   ·rw[Fi hn]at h1;simp only[an,ba]at h2;refine⟨by simpa using h1,?_⟩;simp only[C0,an,ba,bu];omega
   ·simp;omega
 ·exact⟨by simp,by simp⟩
theorem HJ(l:AP)(c:UInt8)(hl:l.length<1073741824):Qu l c=some (.mk (AT c l)):=by
 unfold Qu;refine CP (fun s=>l.length-s.2.1.toNat)
  (fun s=> ∃b j:Nat,s.1=b∧s.2.1=j∧b≤j∧j≤l.length∧(∀x∈(l.take j).drop b,x≠c)∧s.2.2.l.length≤b∧s.2.2.l++AT c (l.drop b)=AT c l)
  (fun r=> ∃b:Nat,∃g,r= .inl ((b:Int),g)∧b≤l.length∧g.l.length≤b∧g.l++[l.drop b]=AT c l) ⟨0,0,rfl,rfl,by omega,by omega,by simp,by simp,by simp⟩ ?_ ?_
 rotate_left
 ·rintro _ ⟨b,g,rfl,h1,h2,h3⟩;simp only[aa,dw,HD h1];rw[JE (by unfold Ci;omega),h3,aa]
 ·rintro⟨b',j',g⟩ ⟨b,j,rfl,rfl,h1,h2,h3,h4,h5⟩;dsimp only at h4 h5 ⊢;have hsplit:l.drop b=(l.take j).drop b++l.drop j:=by
   rw[←ed (by simp;omega),c9]
  by_cases hj:j<l.length
  ·rw[t6 (by simpa using hj),By,ab hj];simp only[aa];have hdj:l.drop j=l[j]::l.drop (j+1):=da hj;rw[show(j:Int)+1=((j+1:Nat):Int) by omega,B6 (by omega)];left
   by_cases hx:l[j]=c
   ·rw[t6 (by simp[hx]),subL_mid h1 (by omega)];simp only[aa];rw[JE (by unfold Ci;omega)];refine⟨_,rfl,⟨j+1,j+1,rfl,rfl,by omega,by omega,by simp,?_,?_⟩,by dsimp only;omega⟩
    ·simp only[C0,an,ba,bu];omega
    ·rw[hsplit,hdj,hx,Fi h3]at h5;simpa using h5
   ·rw[t7 (by simp only[t8];exact fun e=>hx (ii.1 (by omega)))];refine⟨_,rfl,⟨b,j+1,rfl,rfl,by omega,by omega,?_,h4,h5⟩,by dsimp only;omega⟩;intro x hxm;rw[bf hj,ed (by simp;omega)]at hxm;rcases cf.1 hxm with h|h
    ·exact h3 x h
    ·rw[ct.1 h];exact hx
  ·rw[t7 (by simpa using hj)];right;refine⟨_,rfl,b,g,rfl,by omega,h4,?_⟩;have:l.drop j=[]:=k0 (by omega);rw[this,ei]at hsplit;rw[hsplit,Gn h3]at h5;rw[hsplit];exact h5
theorem fR(c:UInt8): ∀l:AP,Lib.index l [c]=MZ l c
 |[]=>rfl
 |x::l=>by
  have ih:=fR c l;have hg:=Lib.index_ge l [c];unfold Lib.index
  by_cases h:x=c
  ·subst h;simp[MZ,j5,kb]
  ·have h': ¬c=x:=fun e=>h e.symm;rw[t7 (by simp[kb,h'])];rw[ih];unfold MZ;rw[j5];have hx:(x==c)=false:=by simpa using h
   rw[hx];cases e:l.findIdx? (fun y=>y==c)with
   |none=>simp
   |some i=>
    simp only[ak,ah,ud];rw[t7 (by simp)];simp
theorem nK(l:AP)(c:UInt8)(hl:l.length<1073741824):HE l [c]=some (MZ l c):=by
 unfold HE;have:Ck l [c]=some (MZ l c):=by
  unfold Ck indexS;rw[t6 (by omega),fR]
 rw[this];rfl
theorem split_val(l:AP)(c:UInt8)(hl:l.length<1073741824):LR l [c]=some (.mk (AT c l)):=by
 have hle:=XV (c:=c) l;have hlen:=QY (c:=c) l;unfold LR Lo;rw[t7 (by simp),t7 (by simp)];dsimp only;rw[t6 (by simp)];have hcount:LS l [c]=some (((AT c l).length:Int)-1):=by
  simp[LS,DN,Fl,AaR,hlen]
 simp only[hcount,aa];rw[show((AT c l).length:Int)-1+1=(AT c l).length by omega,B6 (by omega),show(l.length:Int)+1=((l.length+1:Nat):Int) by omega,B6 (by omega),t7 (by omega)];have hmk:mkG ([]:AP) 16 ((AT c l).length:Int) ((AT c l).length:Int)=some (.mk (az (AT c l).length [])):=by
  unfold mkG;rw[t6 (by unfold Ci;omega)];simp
 simp only[hmk,aa,Int.add_zero];rw[show((AT c l).length:Int)-1=(((AT c l).length-1:Nat):Int) by omega,B6 (by omega)];rw[CP (r:=some (.mk (AT c l))) (fun s=>s.1.length) (fun s=> ∃d:List AP,s.2.1=(d.length:Int)∧AT c l=d++AT c s.1∧s.2.2= .mk (d++az (AT c s.1).length [])∧s.1.length≤l.length)
  (fun r=> ∃s:AP,∃d:List AP,r= .inl (s,(d.length:Int), .mk (d++[[]]))∧AT c l=d++[s]) ⟨[],rfl,rfl,rfl,bc _⟩]
 ·rfl
 ·rintro⟨s,i,g⟩ ⟨d,rfl,h1,hg,h3⟩;dsimp only at h1 hg h3 ⊢;subst hg;have hL:(AT c l).length=d.length+(AT c s).length:=by rw[h1,an]
  rcases Pn s c with ⟨hn,e⟩|⟨p,q,rfl,hn,e⟩
  ·right;rw[Gn hn]at h1 hL ⊢;rw[t7 (by simp at hL ⊢;omega)];exact⟨_,rfl,s,d,rfl,h1⟩
  ·left;have hq:=nx.2 (Dd (c:=c) q);rw[Fi hn]at h1 hL ⊢;have hpl:(p++c::q).length=p.length+(q.length+1):=by simp
   rw[t6 (by simp at hL ⊢;omega)];rw[nK _ _ (by omega)];simp only[e,aa];rw[t7 (by simp),B6 (by omega),TZ (by omega)];simp only[aa,ba,bu,dc,kj,C0];rw[E7 (by simp)];simp only[aa,get_at,ak,GS.set,set_at];rw[show(p.length:Int)+(1:Nat)=((p.length+1:Nat):Int) by omega,B6 (by omega),HD (by omega),drop_at,take_at];simp only[aa];rw[show((d.length:Nat):Int)+1=((d.length+1:Nat):Int) by omega,B6 (by omega)];refine⟨_,rfl,⟨d++[p],by simp,by rw[h1];simp,by simp,?_⟩,?_⟩
   ·dsimp only;omega
   ·dsimp only;omega
 ·rintro _ ⟨s,d,rfl,h⟩;have hd:d.length+1≤l.length+1:=by have:=ue jd h;simp at this;omega
  simp only[dw,C0];rw[E7 (by simp)];simp only[aa,get_at,ak,GS.set,set_at];rw[show((d.length:Nat):Int)+1=((d.length+1:Nat):Int) by omega,B6 (by omega),yN (by simp)];rw[h];simp[au]
theorem ZC(l:AP)(c:UInt8)(hl:l.length<4611686018427387904):((∃m,l=m++[c])∧B0 l [c]=some true)∨((∀m,l≠m++[c])∧B0 l [c]=some false):=by
 rcases ne l with rfl|⟨m,x,e⟩
 ·right;exact⟨fun m=>by simp,by simp[B0,Cr]⟩
 ·rw[nf]at e;subst e;have hh:B0 (m++[x]) [c]=some (decide (x=c)):=by
   simp only[an,ba,bu]at hl;simp only[B0,Cr,an,ba,bu];rw[t6 (by simp;omega),show((m.length+(0+1):Nat):Int)-((0+1:Nat):Int)=(m.length:Nat) by omega,B6 (by omega),HD (by simp)];simp
  rw[hh]
  by_cases hx:x=c
  ·subst hx;exact .inl ⟨⟨m,rfl⟩,by simp⟩
  ·exact .inr ⟨fun m' e=>hx (by simpa using (pz e rfl)),by simp[hx]⟩
theorem dB(l:AP)(c:UInt8)(hl:l.length<4611686018427387904):((∃m,l=m++[c])∧Fb l [c]=some true)∨((∀m,l≠m++[c])∧Fb l [c]=some false):=by
 rcases ZC l c hl with ⟨h1,h2⟩|⟨h1,h2⟩
 ·exact .inl ⟨h1,by simp[Fb,h2]⟩
 ·exact .inr ⟨h1,by simp[Fb,h2]⟩
theorem cY(m:AP)(c:UInt8)(hl:m.length<4611686018427387903):Hm (m++[c]) [c]=some m:=by
 have h:B0 (m++[c]) [c]=some true:=((ZC (m++[c]) c (by simp;omega)).resolve_right fun h=>h.1 m rfl).2;simp only[Hm,E3,h,aa,uc,an,ba,bu];rw[show((m.length+(0+1):Nat):Int)-((0+1:Nat):Int)=(m.length:Nat) by omega,B6 (by omega),TZ (by simp)];simp
theorem loose_val(m:AP)(hl:m.length<1073741823):Mo (m++[10])=some (.mk (AT 10 m)):=by
 simp only[Mo];rw[t7 (by simp)];simp only[cY m 10 (by omega),split_val m 10 (by omega),aa]
theorem zZ(m:AP)(hl:m.length<1073741823):Hh (m++[10])=some (.mk (AT 10 m),true):=by
 have h:=((dB (m++[10]) 10 (by simp;omega)).resolve_right fun h=>h.1 m rfl).2;simp[Hh,Cr,h,loose_val m hl]
theorem uO(l:AP)(hl:l.length<1073741823)(h0:l≠[])(h: ∀m,l≠m++[10]):Hh l=some (.nil,false):=by
 have h:=((dB l 10 (by omega)).resolve_left fun e=>by obtain⟨⟨m,e⟩,_⟩:=e;exact h m e).2;simp[Hh,Cr,h,h0]
theorem Aa0:Hh []=some (.nil,true):=by simp[Hh,Cr,Mo]
end
section
def blk(c:UInt8):Bool:=c==32||c==9||c==13
theorem yK(l:AP):l=[]∨ ∃m c,l=m++[c]:=by
 rcases ne l with h|⟨m,c,h⟩
 ·exact .inl h
 ·exact .inr ⟨m,c,by rw[h,nf]⟩
end
section
theorem qN{l:AP}{c:UInt8}(h:c∉l): ∀x∈l,x≠c:=fun x hx e=>h (e▸hx)
theorem iter_rel{σ τ β γ:Type}{F:σ→Option (σ⊕β)}{G:τ→Option (τ⊕γ)}(m:σ→Nat)(R:σ→τ→Prop)(Q:β→γ→Prop)
  (step: ∀s t,R s t→(∃s' t',F s=some (.inl s')∧G t=some (.inl t')∧R s' t'∧m s'<m s)∨ ∃b c,F s=some (.inr b)∧G t=some (.inr c)∧Q b c) {s:σ} {t:τ} (h:R s t):
  ∃b c,iter F s=some b∧iter G t=some c∧Q b c:=by
 have key: ∀n s t,m s<n→R s t→ ∃b c,iter F s=some b∧iter G t=some c∧Q b c:=by
  intro n
  induction n with
  |zero=>intro s t h;omega
  |succ n ih=>
   intro s t h hR;rcases step s t hR with ⟨s',t',e1,e2,hR',hm⟩|⟨b,c,e1,e2,hq⟩
   ·rw[Fd e1,Fd e2];exact ih s' t' (by omega) hR'
   ·exact⟨b,c,CQ e1,CQ e2,hq⟩
 exact key _ s t (Nat.lt_succ_self _) h
theorem Zu(c:UInt8): ∀l:AP,∃init last pre,AT c l=init++[last]∧l=pre++last∧c∉last∧((pre=[]∧init=[])∨ ∃m,pre=m++[c]∧init=AT c m)
 |[]=>⟨[],[],[],rfl,rfl,by simp, .inl ⟨rfl,rfl⟩⟩
 |x::l=>by
  obtain⟨init,last,pre,h1,h2,h3,h4⟩:=Zu c l
  by_cases hx:x=c
  ·subst hx;refine⟨[]::init,last,x::pre,by simp[AT,h1],by rw[h2];rfl,h3, .inr ?_⟩;rcases h4 with ⟨rfl,rfl⟩|⟨m,rfl,rfl⟩
   ·exact⟨[],rfl,rfl⟩
   ·exact⟨x::m,rfl,by simp[AT]⟩
  ·rcases h4 with ⟨rfl,rfl⟩|⟨m,rfl,rfl⟩
   ·refine⟨[],x::last,[],?_,by rw[h2];rfl,?_, .inl ⟨rfl,rfl⟩⟩
    ·simp only[dt]at h1;simp[AT,hx,h1]
    ·simp only[bm,not_or];exact⟨iz hx,h3⟩
   ·have hm:=Dd (c:=c) m;cases hs:AT c m with
    |nil=>exact absurd hs hm
    |cons h t=>
     rw[hs]at h1;refine⟨(x::h)::t,last,x::(m++[c]),?_,by rw[h2];rfl,h3, .inr ⟨x::m,rfl,?_⟩⟩
     ·simp[AT,hx,h1]
     ·simp[AT,hx,hs]
end
section
theorem vH(l:AP)(k:Nat)(h:k<l.length):(⟨l.toArray⟩:ByteArray).get! k=l[k]:=by
 show l.toArray[k]! =l[k];rw[getElem!_pos _ _ (by simpa using h)];simp
theorem Rj(l:AP)(pos:Nat)(h:pos<l.length):(l[pos].toNat<128∧E2 l pos=((l[pos].toNat:Int),1))∨
  (128≤l[pos].toNat∧128≤(E2 l pos).1∧1≤(E2 l pos).2∧ ∀j,j<(E2 l pos).2→ ∃hj:pos+j<l.length,128≤(l[pos+j]).toNat):=by
 have hsz:(⟨l.toArray⟩:ByteArray).size=l.length:=by simp[lw]
 have h0:=vH l pos h
 by_cases hb:l[pos].toNat<128
 ·left;refine⟨hb,?_⟩;simp only[E2,il,i6,h0,hb,uc]
 ·right;have hb':128≤l[pos].toNat:=by omega
  refine⟨hb',?_⟩;have hd0: ∀j,j<1→ ∃hj:pos+j<l.length,128≤(l[pos+j]).toNat:=fun j hj=>by
   obtain rfl:j=0:=by omega
   exact⟨h,hb'⟩
  have hc: ∀k,(decide (pos+k<(⟨l.toArray⟩:ByteArray).size)&&((⟨l.toArray⟩:ByteArray).get! (pos+k)).toNat/64==2)=true→ ∃hj:pos+k<l.length,128≤(l[pos+k]).toNat:=fun k hk=>by
   simp only[af,t8,beq_iff_eq,hsz]at hk;refine⟨hk.1,?_⟩;have:=hk.2;rw[vH l _ hk.1]at this;omega
  simp only[E2,il,i6,h0];rw[t7 hb];have err:(128:Int)≤((m8:Nat):Int):=by simp[m8]
  split
  ·rename_i hx;simp only[af]at hx;have h1:=hc 1 (by simpa using hx.2)
   split
   ·rename_i hy;refine⟨by simp only;omega,by simp,fun j hj=> ?_⟩;simp only at hj;rcases(show j=0∨j=1 by omega)with rfl|rfl
    ·exact hd0 0 (by omega)
    ·exact h1
   ·exact⟨err,by simp,hd0⟩
  ·split
   ·rename_i hx;simp only[af]at hx;have h1:=hc 1 (by simpa using hx.1.2);have h2:=hc 2 (by simpa using hx.2)
    split
    ·rename_i hy;simp only[af,t8]at hy;refine⟨by simp only;omega,by simp,fun j hj=> ?_⟩;simp only at hj;rcases(show j=0∨j=1∨j=2 by omega)with rfl|rfl|rfl
     ·exact hd0 0 (by omega)
     ·exact h1
     ·exact h2
    ·exact⟨err,by simp,hd0⟩
   ·split
    ·rename_i hx;simp only[af]at hx;have h1:=hc 1 (by simpa using hx.1.1.2);have h2:=hc 2 (by simpa using hx.1.2);have h3:=hc 3 (by simpa using hx.2)
     split
     ·rename_i hy;simp only[af,t8]at hy;refine⟨by simp only;omega,by simp,fun j hj=> ?_⟩;simp only at hj;rcases(show j=0∨j=1∨j=2∨j=3 by omega)with rfl|rfl|rfl|rfl
      ·exact hd0 0 (by omega)
      ·exact h1
      ·exact h2
      ·exact h3
     ·exact⟨err,by simp,hd0⟩
    ·exact⟨err,by simp,hd0⟩
theorem enc_len(r:Int)(h:128≤r): ∃b c,(jc r).data.toList=b++[c]∧1≤b.length∧b.length≤3∧128≤c.toNat:=by
 have hc:128≤(if Utf8.valid r then r.toNat else m8):=by
  split
  ·omega
  ·simp[m8]
 have hb: ∀n:Nat,128≤n→n<256→128≤(bb n).toNat:=fun n h1 h2=>by rw[gi];omega
 unfold jc;dsimp only;generalize (if Utf8.valid r then r.toNat else m8)=k at hc;rw[t7 (by omega)]
 split
 ·exact⟨[_],_,rfl,by simp,by simp,hb _ (by omega) (by omega)⟩
 ·split
  ·exact⟨[_,_],_,rfl,by simp,by simp,hb _ (by omega) (by omega)⟩
  ·exact⟨[_,_,_],_,rfl,by simp,by simp,hb _ (by omega) (by omega)⟩
theorem jO(r:Int): ∃b,F0 r=some b:=by
 unfold F0 Cr
 by_cases h1:(0:Int)≤r<;>by_cases h2:r<55296<;>by_cases h3:(57343:Int)<r<;>by_cases h4:r≤1114111<;>simp[h1,h2,h3,h4]
theorem qR(a b:UInt8)(ha:a.toNat<128)(hb:b.toNat<128)(r:Int)(h:128≤r):Dv [a,b] r=some (-1):=by
 unfold Dv;have n1: ¬r<128:=by omega
 have n0:(0:Int)≤r:=by omega
 simp only[Cr,n0,n1,decide_true,decide_false,uc,aa];rw[t7 (by simp)]
 by_cases he:r=65533
 ·rw[t6 (by simpa using he)];have r0:E2 [a,b] 0=((a.toNat:Int),1):=by
   rcases Rj [a,b] 0 (by simp)with ⟨_,e⟩|⟨e,_⟩
   ·exact e
   ·simp at e;omega
  have r1:E2 [a,b] 1=((b.toNat:Int),1):=by
   rcases Rj [a,b] 1 (by simp)with ⟨_,e⟩|⟨e,_⟩
   ·exact e
   ·simp at e;omega
  have x0: ¬(a.toNat:Int)=65533:=by omega
  have x1: ¬(b.toNat:Int)=65533:=by omega
  rw[Ry (n:=3) (b:= .inl ())]
  ·rfl
  ·simp[Jo,r0,r1,x0,x1]
 ·rw[t7 (by simpa using he)];obtain⟨v,hv⟩:=jO r;simp only[hv,aa];cases v with
  |false=>simp
  |true=>
   obtain⟨p,c,e,h1,h2,h3⟩:=enc_len r h;simp only[cq,ah,ud,e];have hl:((p++[c]).length:Int)-1=(p.length:Nat):=by simp
   rw[hl,B6 (by omega)]
   by_cases hp:p.length=1
   ·rw[Ry (n:=1) (b:= .inr (-1))]
    ·rfl
    ·have i1:DN [a,b] ((p.length:Nat):Int)=some b:=by rw[By,hp];rfl
     have i2:DN (p++[c]) ((p.length:Nat):Int)=some c:=by rw[By,bo (bc _),jz];rfl
     have hbc: ¬(b.toNat:Int)=(c.toNat:Int):=by omega
     have hs:IW [a,b] (some (tx tz ((p.length:Int)+1))) none=some []:=by
      rw[hp,show((1:Nat):Int)+1=((2:Nat):Int)from rfl,B6 (by omega),HD (by simp)];rfl
     have hf:DV [] c=some (-1):=rfl;have hlt:((p.length:Nat):Int)<(([a,b]:AP).length:Int):=by rw[hp];simp
     simp only[Jo,hlt,decide_true,uc,i1,i2,hs,hf,aa,hbc,decide_false,ju];simp
   ·rw[Ry (n:=1) (b:= .inl ())]
    ·rfl
    ·have hlt: ¬((p.length:Nat):Int)<(([a,b]:AP).length:Int):=by simp;omega
     simp only[Jo,hlt,decide_false,ah,ud]
     rfl
theorem qQ(a b:UInt8)(c:UInt8)(h:c.toNat<128):Dv [a,b] (c.toNat:Int)=some (MZ [a,b] c):=by
 unfold Dv;have n1:(c.toNat:Int)<128:=by omega
 have n0:(0:Int)≤(c.toNat:Int):=by omega
 have hc:ib.ofI (c.toNat:Int)=c:=by
  show bb (IntKind.u8.wrap (c.toNat:Int)).toNat=c;have:IntKind.u8.wrap (c.toNat:Int)=c.toNat:=by simp only[tx,gc,ko];simp;omega
  rw[this];simp
 simp only[Cr,n0,n1,decide_true,uc,aa,hc,P9]
def two(a b c:UInt8):Bool:=c==a||c==b
theorem find2(a b c:UInt8):0≤MZ [a,b] c↔two a b c=true:=by
 unfold MZ two
 by_cases h1:a=c
 ·subst h1;simp[j5]
 ·by_cases h2:b=c
  ·subst h2;have:(a==b)=false:=by simpa using h1
   simp[j5,this]
  ·have e1:(a==c)=false:=by simpa using h1
   have e2:(b==c)=false:=by simpa using h2
   have e3:(c==a)=false:=by simpa using iz h1
   have e4:(c==b)=false:=by simpa using iz h2
   simp[j5,e1,e2,e3,e4]
def set2(a b:UInt8):Ar Bool 256:=((aw 256 du).z.set a.toNat true).set b.toNat true
theorem makeSet2(a b:UInt8)(ha:a.toNat<128)(hb:b.toNat<128):Gm [a,b]=some (set2 a b,true):=by
 unfold Gm;have na: ¬((128:UInt8).toNat:Int)≤(a.toNat:Int):=by show¬(128:Int)≤_;omega
 have nb: ¬((128:UInt8).toNat:Int)≤(b.toNat:Int):=by show¬(128:Int)≤_;omega
 have w1:tx tz ((0:Int)+1)=1:=rfl;have w2:tx tz ((1:Int)+1)=2:=rfl;have g0:DN [a,b] 0=some a:=rfl;have g1:DN [a,b] 1=some b:=rfl;have l0:(0:Int)<(([a,b]:AP).length:Int):=by simp
 have l1:(1:Int)<(([a,b]:AP).length:Int):=by simp
 have l2: ¬(2:Int)<(([a,b]:AP).length:Int):=by simp
 rw[Ry (n:=3) (b:= .inl (set2 a b))]
 ·rfl
 ·simp only[Jo,l0,l1,l2,g0,g1,na,nb,w1,w2,decide_true,decide_false,uc,ah,ud,aa,E7 (show a.toNat<256 by omega),E7 (show b.toNat<256 by omega),t6 (show a.toNat<256 by omega),t6 (show b.toNat<256 by omega)]
  rfl
theorem contains2(a b c:UInt8):CZ (some (set2 a b)) c=some (two a b c):=by
 have hl:(set2 a b).l=((az 256 false).set a.toNat true).set b.toNat true:=rfl;have h:(set2 a b).l[c.toNat]? =some (two a b c):=by
  have hc:=c.toNat_lt;rw[hl];simp only[i7,ig,qi,ky,two]
  by_cases h1:b.toNat=c.toNat
  ·have:=ii.1 h1;subst this;have:=b.toNat_lt;simp;omega
  ·have e1:(c==b)=false:=by rw[beq_eq_false_iff_ne];exact fun e=>h1 (by rw[e])
   rw[t7 h1]
   by_cases h2:a.toNat=c.toNat
   ·have:=ii.1 h2;subst this;have:=a.toNat_lt;simp;omega
   ·have e2:(c==a)=false:=by rw[beq_eq_false_iff_ne];exact fun e=>h2 (by rw[e])
    rw[t7 h2,t6 (by simpa using hc)];simp[e1,e2]
 simp[CZ,DN,h]
theorem bO(l:AP)(a b:UInt8)(ha:a.toNat<128)(hb:b.toNat<128)(hl:l.length<1073741824):GJ l [a,b]=some (l.any (two a b)):=by
 have key: ∃r:Int,I7 l [a,b]=some r∧(0≤r↔l.any (two a b)=true):=by
  unfold I7;rw[t7 (by simp),t7 (by simp)];simp only[Gf,aa]
  by_cases h8:(8:Int)<(l.length:Int)
  ·rw[t6 (by simpa using h8)];simp only[makeSet2 a b ha hb,aa,uc];obtain⟨r,e,hr⟩:=K0 (F:=fun(s26:Int)=>
    if(decide (s26<(l.length:Int)))=true then
    (DN l s26).bind fun x30=>
    (CZ (some (set2 a b)) x30).bind fun x31=>
    if x31=true then
    (some s26).map fun r=> .inr (.inr r)
    else
    some (.inl (tx tz (s26+1)))
    else
    some (.inr (.inl ()):_⊕Unit⊕Int)) (fun s=>l.length-s.toNat) (fun s=> ∃n:Nat,s=(n:Int)∧n≤l.length∧(l.take n).any (two a b)=false)
    (fun r=>(r= .inl ()∧l.any (two a b)=false)∨ ∃n:Nat,r= .inr (n:Int)∧l.any (two a b)=true) (by
     rintro s ⟨n,rfl,h1,h2⟩
     by_cases hn:n<l.length
     ·rw[t6 (by simpa using hn),By,ab hn];simp only[aa,contains2]
      by_cases hx:two a b l[n]=true
      ·right;refine⟨_,by rw[t6 hx];rfl, .inr ⟨n,rfl,?_⟩⟩;rw[jp];exact⟨_,eu hn,hx⟩
      ·left;rw[t7 hx,show(n:Int)+1=((n+1:Nat):Int) by omega,B6 (by omega)];refine⟨_,rfl,⟨n+1,rfl,by omega,?_⟩,by omega⟩;rw[bf hn,List.any_append,h2];simpa using hx
     ·right;rw[t7 (by simpa using hn)];refine⟨_,rfl, .inl ⟨rfl,?_⟩⟩
      rwa [au (by omega)]at h2) (s:=0) ⟨0,rfl,by omega,by simp⟩
   rw[e];rcases hr with ⟨rfl,hr⟩|⟨n,rfl,hr⟩
   ·exact⟨-1,rfl,by simp[hr]⟩
   ·exact⟨n,rfl,by simp[hr]⟩
  ·rw[t7 (by simpa using h8)];obtain⟨r,e,hr⟩:=K0 (F:=fun(s14:Nat)=>
    if s14<l.length then
    (Dv [a,b] (E2 l s14).1).bind fun x19=>
    if(decide (0≤x19))=true then
    (some ((s14:Nat):Int)).map fun r=> .inr (.inr r)
    else
    some (.inl (s14+(E2 l s14).2))
    else
    some (.inr (.inl ()):_⊕Unit⊕Int)) (fun s=>l.length-s) (fun n=>n≤l.length∧(l.take n).any (two a b)=false)
    (fun r=>(r= .inl ()∧l.any (two a b)=false)∨ ∃n:Nat,r= .inr (n:Int)∧l.any (two a b)=true) (by
     rintro n ⟨h1,h2⟩
     by_cases hn:n<l.length
     ·rw[t6 hn];rcases Rj l n hn with ⟨hlo,e⟩|⟨hhi,e1,e2,e3⟩
      ·simp only[e,qQ a b _ hlo,aa,find2,t8]
       by_cases hx:two a b l[n]=true
       ·right;refine⟨_,by rw[t6 hx];rfl, .inr ⟨n,rfl,?_⟩⟩;rw[jp];exact⟨_,eu hn,hx⟩
       ·left;rw[t7 hx];refine⟨_,rfl,⟨by omega,?_⟩,by omega⟩;rw[bf hn,List.any_append,h2];simpa using hx
      ·left;simp only[qR a b ha hb _ e1,aa];have hle:n+(E2 l n).2≤l.length:=by
        obtain⟨hj,_⟩:=e3 ((E2 l n).2-1) (by omega);omega
       refine⟨n+(E2 l n).2,by simp,⟨hle,?_⟩,by omega⟩;rw[List.any_eq_false]at h2 ⊢;intro x hx;obtain⟨i,hi,rfl⟩:=gm.1 hx;rw[aq]at hi;rw[kd]
       by_cases hin:i<n
       ·exact h2 _ (gm.2 ⟨i,by rw[aq];omega,by rw[kd]⟩)
       ·obtain⟨hj,hv⟩:=e3 (i-n) (by omega);have:l[n+(i-n)]=l[i]:=by congr 1;omega
        rw[this]at hv;intro ht;simp only[two,fu,beq_iff_eq]at ht;rcases ht with ht|ht<;>rw[ht]at hv<;>omega
     ·right;rw[t7 hn];refine⟨_,rfl, .inl ⟨rfl,?_⟩⟩
      rwa [au (by omega)]at h2) (s:=0) ⟨by omega,by simp⟩
   rw[e];rcases hr with ⟨rfl,hr⟩|⟨n,rfl,hr⟩
   ·exact⟨-1,rfl,by simp[hr]⟩
   ·exact⟨n,rfl,by simp[hr]⟩
 obtain⟨r,e,hr⟩:=key;simp only[GJ,e,aa];congr 1;rw[gq];simpa using hr
end
section
theorem PK(l:AP)(c:UInt8)(hl:l.length<1073741824):FG l [c]=some (decide (c∈l)):=by
 simp only[FG,nK l c hl,aa];congr 1;rw[gq];simp only[t8];rcases Pn l c with ⟨h,e⟩|⟨p,q,rfl,h,e⟩
 ·rw[e];exact⟨fun h=>by omega,fun hm=>absurd rfl (h c hm)⟩
 ·rw[e];simp
theorem qV(l:AP)(c:UInt8)(hl:l.length<1073741824):cB l c=some (decide (c∈l)):=by
 simp only[cB,HJ l c hl,aa];show some (decide ((1:Int)<((AT c l).length:Int)))=_;congr 1;rw[gq];simp only[t8];have h:=QY (c:=c) l;have:0<l.countP (fun x=>x==c)↔c∈l:=by
  rw[List.countP_pos_iff];exact⟨fun⟨x,hx,e⟩=>by rwa [←(by simpa using e:x=c)],fun hx=>⟨c,hx,by simp⟩⟩
 rw[←this];omega
theorem any_two(l:AP)(a b:UInt8):l.any (two a b)=(decide (a∈l)||decide (b∈l)):=by
 rw[gq];simp only[jp,two,fu,beq_iff_eq,t8];constructor
 ·rintro⟨x,hx,rfl|rfl⟩
  ·exact .inl hx
  ·exact .inr hx
 ·rintro(h|h)
  ·exact⟨a,h, .inl rfl⟩
  ·exact⟨b,h, .inr rfl⟩
def Zp(k v:AP):AP×Int:=if k=[]∨61∈k∨10∈k∨10∈v then([],5)else if 512<(k++[61]++v).length then([],4)else(k++[61]++v,0)
theorem text_join(k v:AP)(hk:k.length<1073741824)(hv:v.length<1073741824):((if k.length+[61].length≤2*Ci then some (k++([61]:AP))else none).bind fun x10=>
  (if x10.length+v.length≤2*Ci then some (x10++v)else none).bind fun x12=>
  if(decide (512<(x12.length:Int)))=true then
  some (([]:AP),(4:Int))
  else
  some (x12,0))=some (if 512<(k++[61]++v).length then([],4)else(k++[61]++v,0)):=by
 rw[t6 (by unfold Ci;simp;omega),aa,t6 (by unfold Ci;simp;omega),aa]
 by_cases h:512<(k++[61]++v).length
 ·rw[t6 h,t6 (by rw[t8];omega)]
 ·rw[t7 h,t7 (by rw[t8];omega)]
theorem text_val(k v:AP)(hk:k.length<1073741824)(hv:v.length<1073741824):Jl ⟨k,v⟩=some (Zp k v):=by
 unfold Jl;simp only[bO k 61 10 (by decide) (by decide) hk,any_two,PK v 10 hv,aa,text_join k v hk hv,FL]
 by_cases h1:k=[]<;>by_cases h2:(61:UInt8)∈k<;>by_cases h3:(10:UInt8)∈k<;>by_cases h4:(10:UInt8)∈v<;>simp[Zp,h1,h2,h3,h4]
def Sb(a k v:AP):Prop:=a=k++61::v∧61∉k∧k≠[]∧10∉a∧a.length≤512
theorem parse_val(a:AP)(hl:a.length<1073741824): ∃k v c,EO a=some (⟨k,v⟩,c)∧Lx a=some (⟨k,v⟩,c)∧((c=0∧Sb a k v)∨(c≠0∧k=[]∧v=[]∧ ∀k v,¬Sb a k v)):=by
 by_cases h:512<a.length
 ·refine⟨[],[],4,?_,?_, .inr ⟨by decide,rfl,rfl,fun k v s=>by have:=s.2.2.2.2;omega⟩⟩
  ·unfold EO;rw[t6 (by rw[t8];omega)]
  ·unfold Lx;rw[t6 (by rw[t8];omega)]
 ·have h512: ¬(512:Int)<(a.length:Int):=by omega
  rcases Xv a 61 (by omega)with ⟨hn,e⟩|⟨p,q,rfl,hn,e⟩
  ·have hnm:(61:UInt8)∉a:=fun hm=>hn 61 hm rfl;refine⟨[],[],5,?_,?_, .inr ⟨by decide,rfl,rfl,fun k v s=>hnm (by rw[s.1];simp)⟩⟩
   ·unfold EO;simp only[h512,decide_false,e,aa,FL,ah,ud,ju,uc]
   ·unfold Lx;simp only[h512,decide_false,HJ a 61 hl,Gn hn,qV a 61 hl,hnm,aa,FL,ah,ud];simp[DN]
  ·have hm:(61:UInt8)∈p++61::q:=by simp
   have hp61:(61:UInt8)∉p:=fun h=>hn 61 h rfl;have i0:DN (p::AT 61 q) 0=some p:=rfl;have e1:EO (p++61::q)=if p=[]∨10∈p++61::q then some (⟨[],[]⟩,5)else some (⟨p,q⟩,0):=by
    unfold EO;simp only[h512,decide_false,e,aa,FL,ah,ud,PK _ 10 hl,cq]
    by_cases h1:p=[]<;>by_cases h2:(10:UInt8)∈p++61::q<;>simp only[h1,h2,decide_true,decide_false,uc,ah,ud,aa,true_or,or_true,or_self]<;>simp[h1]
   have e2:Lx (p++61::q)=if p=[]∨10∈p++61::q then some (⟨[],[]⟩,5)else some (⟨p,q⟩,0):=by
    unfold Lx;have hs:IW (p++61::q) (some (tx tz ((p.length:Int)+1))) none=some q:=by
     have hpl:(p++61::q).length=p.length+(q.length+1):=by simp
     rw[show(p.length:Int)+1=((p.length+1:Nat):Int) by omega,B6 (by omega),HD (by omega),drop_at]
    simp only[h512,decide_false,HJ _ 61 hl,Fi hn,qV _ 61 hl,qV _ 10 hl,hm,C0,i0,hs,aa,FL,ah,ud,decide_true,cq]
    by_cases h1:p=[]<;>by_cases h2:(10:UInt8)∈p++61::q<;>simp only[h1,h2,decide_true,decide_false,uc,ah,ud,aa,true_or,or_true,or_self]<;>simp[h1]
   rw[e1,e2]
   by_cases hc:p=[]∨10∈p++61::q
   ·rw[t6 hc,t6 hc];refine⟨[],[],5,rfl,rfl, .inr ⟨by decide,rfl,rfl,fun k v s=> ?_⟩⟩;rcases hc with rfl|hc
    ·have h1:=s.1;cases k with
     |nil=>exact s.2.2.1 rfl
     |cons x k=>
      simp only[dt,cd,gr]at h1;exact s.2.1 (by rw[h1.1];simp)
    ·exact s.2.2.2.1 hc
   ·rw[t7 hc,t7 hc];exact⟨p,q,0,rfl,rfl, .inl ⟨rfl,rfl,hp61,fun h=>hc (.inl h),fun h=>hc (.inr h),by omega⟩⟩
theorem dC{c:UInt8}: ∀{p p' q q':AP},p++c::q=p'++c::q'→c∉p→c∉p'→p=p'∧q=q'
 |[],[],_,_,h,_,_=>by simpa using h
 |[],x::p',_,_,h,_,h2=>by simp only[dt,cd,gr]at h;exact absurd (by rw[h.1];simp) h2
 |x::p,[],_,_,h,h1,_=>by simp only[dt,cd,gr]at h;exact absurd (by rw[←h.1];simp) h1
 |x::p,y::p',_,_,h,h1,h2=>by
  simp only[cd,gr]at h;obtain⟨a,b⟩:=dC h.2 (fun h=>h1 (a8 _ h)) (fun h=>h2 (a8 _ h));exact⟨by rw[h.1,a],b⟩
end
section
def OG(l:List AP):AP:=l.flatMap fun x=>x++[10]
theorem NM(x:AP)(l:List AP):OG (x::l)=x++10::OG l:=by simp[OG]
theorem pC(a b:List AP):OG (a++b)=OG a++OG b:=by simp[OG]
theorem txt_one(x:AP):OG [x]=x++[10]:=by simp[OG]
theorem Wk(a:List AP)(x:AP):OG (a++[x])=OG a++x++[10]:=by rw[pC,txt_one,br]
theorem txt_take{l:List AP}{n:Nat}(h:n<l.length):OG (l.take (n+1))=OG (l.take n)++l[n]++[10]:=by
 rw[bf h,Wk]
theorem txt_le(l:List AP)(n:Nat):(OG (l.take n)).length≤(OG l).length:=by
 have:=ue jd (pC (l.take n) (l.drop n));rw[c9,an]at this;omega
theorem lZ: ∀m:AP,OG (AT 10 m)=m++[10]
 |[]=>rfl
 |x::l=>by
  have ih:=lZ l;simp only[AT]
  by_cases hx:x=10
  ·rw[t6 hx,NM,ih,hx];rfl
  ·rw[t7 hx];cases e:AT 10 l with
   |nil=>exact absurd e (Dd l)
   |cons h t=>
    rw[e,NM]at ih;rw[NM];show x::(h++10::OG t)=_;rw[ih];rfl
theorem Qg: ∀{l:List AP},(∀x∈l,(10:UInt8)∉x)→AT 10 (OG l)=l++[[]]
 |[],_=>rfl
 |x::l,h=>by
  rw[NM,Fi (qN (h x bg)),Qg fun y hy=>h y (a8 _ hy)]
  rfl
theorem txt_len(l:List AP)(n:Nat)(h: ∀x∈l,x.length≤n):(OG l).length≤l.length*(n+1):=by
 induction l with
 |nil=>simp[OG]
 |cons x l ih=>
  have h1:=ih fun y hy=>h y (a8 _ hy);have h2:=h x bg;rw[NM,an,ba,ba,ci];omega
theorem len_txt(l:List AP):l.length≤(OG l).length:=by
 induction l with
 |nil=>simp
 |cons x l ih=>rw[NM,an,ba,ba];omega
theorem join_val(g:GS AP)(h:(OG g.l).length≤Ci):Rx g=some (OG g.l):=by
 have hl:=len_txt g.l;unfold Ci at h;unfold Rx;refine CP (fun s=>g.l.length-s.1.toNat) (fun s=> ∃n:Nat,s.1=n∧n≤g.l.length∧s.2=OG (g.l.take n)) (fun r=>r= .inl (OG g.l)) ⟨0,rfl,by omega,by simp[OG]⟩ ?_ ?_
 rotate_left
 ·rintro _ rfl;simp only[dw,sD];rw[t6 ⟨by unfold Ci;exact h,fun e=>by cases e⟩];rfl
 ·rintro⟨s,b⟩ ⟨n,rfl,h1,h2⟩;dsimp only at h2 ⊢;subst h2
  by_cases hn:n<g.l.length
  ·have h3:=txt_take hn;have h4:=txt_le g.l (n+1);rw[h3]at h4;simp only[an,ba,bu]at h4;rw[t6 (by simpa using hn),By,ab hn];left;refine⟨((n:Int)+1,OG (g.l.take (n+1))),?_,⟨n+1,by simp,by omega,rfl⟩,by dsimp only;omega⟩;simp only[aa,OP];rw[t6 (by unfold Ci;omega)];simp only[aa];rw[t6 (by unfold Ci;simp;omega),aa,←h3,show(n:Int)+1=((n+1:Nat):Int) by omega,B6 (by omega)]
  ·right;rw[t7 (by simpa using hn)];exact⟨_,rfl,by rw[au (by omega)]⟩
end
end
end Go.Proofs.YtfdkkkdbknbmaaaGreatDoor.Am
