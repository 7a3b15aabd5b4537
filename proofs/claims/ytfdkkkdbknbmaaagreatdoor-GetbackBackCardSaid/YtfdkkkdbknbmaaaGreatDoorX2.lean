/-
  Blocks that are kept back: a new block that no number has yet; a number for it, later.
-/
import Derived.LoopN
import Derived.Scope
import Derived.Control
import Derived.Laws.Sem
import GoSem.Extern.Table
import Derived.Lib.Bytealg
import Derived.Lib.MakeNoZero
import Derived.Test.YtfdkkkdbknbmaaaGreatDoorX1
set_option linter.unusedVariables false
set_option linter.unusedSimpArgs false
namespace Go.Proofs.YtfdkkkdbknbmaaaGreatDoor.Am
noncomputable section
open Aa renaming op→a7
open Ar renaming ext→pi
open _root_.Array renaming getD_eq_getD_getElem?→cv, getElem?_append_left→lr, getElem?_eq_getElem→ff, getElem?_setIfInBounds_ne→jh, replicate→qd, toList_setIfInBounds→oa
open Bf renaming op→jw
open Bl renaming lens→j8
open Bool renaming and_eq_true→af, and_true→lc, eq_iff_iff→gq, false_eq_true→ah, not_eq_true'→ck, or_eq_true→fu
open Br renaming ext→ri
open _root_.ByteArray renaming ext→mh, push→qq, size→lw
open CG renaming cut→sj
open CM renaming rep→ti
open Classical renaming byContradiction→gw, choose→fk
open Cx renaming push→pj
open Extern.AbiNoEscape renaming same→o8
open Extern.BytealgCompare renaming cmp→jk, compare→nq
open Extern.BytealgCount renaming count→ot
open Extern.BytealgIndexByte renaming indexByte→mr
open Extern.Bytes renaming asByte→mg, bytesOf→gk, loadBytes→mz
open FR renaming men→tj
open GS renaming l→qn
open Go renaming results→rm
open IV renaming refl→mj
open Iff renaming rfl→q7
open Int renaming toNat_of_nonneg→re
open List renaming all_cons→fy, all_eq_true→cb, all_nil→r9, any_eq_true→jp, append_assoc→br, append_nil→ei, cons_append→cd, drop_drop→cw, drop_eq_nil_of_le→k0, drop_left'→fh, drop_succ_cons→jy, drop_take→ic, drop_zero→dq, eq_nil_of_length_eq_zero→c0, ext_getElem?→ew, filterMap_cons→gx, find?_cons→qe, findIdx?_cons→j5, flatMap_append→kl, flatMap_cons→d5, flatMap_map→o9, flatten_append→gy, flatten_cons→bz, foldl_cons→nv, getElem?_append_left→bq, getElem?_append_right→bo, getElem?_cons_succ→di, getElem?_cons_zero→bw, getElem?_eq_getElem→ab, getElem?_eq_none→dk, getElem?_eq_some_iff→cg, getElem?_map→ge, getElem?_set→i7, getElem?_set_ne→d9, getElem?_set_self→de, length_append→an, length_cons→ba, length_drop→bk, length_eq_zero_iff→im, length_map→cj, length_nil→bu, length_pos_iff→nx, length_set→ig, length_take→aq, mapM_cons→qp, map_append→df, map_cons→bh, map_map→j0, map_nil→eo, mem_cons→bm, mem_cons_of_mem→a8, mem_cons_self→bg, mem_filter→fv, mem_iff_getElem→gm, mem_of_mem_drop→cz, mem_of_mem_take→co, mem_range'_1→dx, mem_singleton→ct, nil_append→dt, not_mem_nil→f8, range→lz, range'→dp, range'_append_1→nu, range'_succ→nh, range_eq_range'→nn, replicate→az, set_append_left→qu, set_cons_succ→j4, set_cons_zero→jo, singleton_append→gb, take→ra, take_append→jq, take_left'→ij, take_length→f9, take_of_length_le→au, take_take→kp, take_zero→lq, zipIdx_cons→kn
open List.cons renaming injEq→gr
open Nat renaming add_assoc→iw, add_comm→pn, add_mul→ga, add_sub_cancel→oe, add_sub_cancel_left→iq, add_zero→i6, beq→fx, beq_refl→mc, ble→ou, blt→kh, eq_of_beq_eq_true→cm, eq_zero_or_pos→ez, le_of_ble_eq_true→gz, le_of_lt→ph, le_of_not_lt→o7, le_refl→bc, le_trans→dj, lt_of_lt_of_le→dv, lt_or_ge→ef, lt_trans→mb, min_comm→py, min_eq_left→fq, mul_le_mul_right→cn, ne_of_lt→sd, not_lt_zero→mn, sub_self→jz, sub_zero→ny, succ_mul→ci, zero_add→dc, zero_le→dz, zero_mul→kc
open Ne renaming symm→iz
open _root_.Go.Proofs.YtfdkkkdbknbmaaaGreatDoor.Am.Obj renaming ext→r8
open Option renaming bind_eq_some_iff→ad, bind_some→aa, getD_some→io, isSome_iff_exists→bn, map_eq_some_iff→aj, map_some→ak
open Option.some renaming inj→be, injEq→ae
open PR renaming length→q6, men→tk, mono→sa
open Pf renaming same→q8
open Prod.mk renaming injEq→ch
open Sem renaming run→sb
open Sum renaming elim→bd, elim_inl→dw, elim_inr→pl
open T renaming arr→aw, b→du, int→am, iso→nc, prod→fj, sl→db, u16→dy, u32→n8, u64→bx, u8→bi
open T.V renaming cells→ng, of→qm
open UInt8 renaming ofNat→bb, toNat→sv, toNat_inj→ii
open Utf8 renaming decode→il, encode→jc
open World renaming cell?→gg, frozen?→j1
section
theorem reserve{tb:CV}{C:CG}(I:Inv tb C){w:World}(hrest:Rest C.w w)(hs:C.w.heap.size<w.heap.size)(hw: ∀b,b<C.w.heap.size→w.heap[b]? =C.w.heap[b]?):
  IV C ⟨C.φ,C.H,w,C.w.heap.size::C.res⟩∧Inv tb ⟨C.φ,C.H,w,C.w.heap.size::C.res⟩:=by
 have X:IV C ⟨C.φ,C.H,w,C.w.heap.size::C.res⟩:=by
  refine⟨hrest,ph hs,bc _,fun b hb hn=>⟨hw b hb,?_⟩,fun _ o h f=>⟨⟨o,h,f⟩,rfl⟩,fun _ fz _ els h=>⟨fz,els,h,bc _,fun _=>rfl⟩,fun b hb hl=>⟨a8 _ hb,hw b hl⟩⟩;rintro(h|h)
  ·exact hn (.inl h)
  ·rcases bm.1 h with rfl|h
   ·exact Nat.lt_irrefl _ hb
   ·exact hn (.inr h)
 refine⟨X,fun j x hj=>r8 X (hw _ (I.lt j (Bg hj))) (I.obj j x hj),I.inj,fun i hi=>mb (I.lt i hi) hs,?_,OF I X,fun b hb=> ?_⟩
 ·intro g cs hg;obtain⟨h1,h2,h3,vs,h4,h5⟩:=I.gl g cs hg;obtain⟨h6,h7⟩:=X.same g h1 h2;exact⟨mb h1 hs,h7,h3,vs,h4.same h6,ri X h5⟩
 ·rcases bm.1 hb with rfl|hb
  ·exact⟨hs,fun i hi=>sd (I.lt i hi)⟩
  ·exact⟨mb (I.rs b hb).1 hs,(I.rs b hb).2⟩
def CG.wake(C:CG)(p:Place)(o:BU):CG:=⟨fun j=>if j=C.H.length then p else C.φ j,C.H++[o],C.w,C.res.filter (fun x=>x != p.blk)⟩
theorem Wj{C:CG}{p:Place}{o:BU}(hp:p.blk∈C.res)(b:Nat):(C.wake p o).own b↔C.own b:=by
 have hlen:(C.wake p o).H.length=C.H.length+1:=by simp[CG.wake]
 constructor
 ·rintro(⟨j,hj,e⟩|h)
  ·rw[hlen]at hj
   by_cases hji:j=C.H.length
   ·subst hji;have:(C.wake p o).φ C.H.length=p:=t6 rfl;rw[this]at e;exact .inr (e▸hp)
   ·have:(C.wake p o).φ j=C.φ j:=t7 hji;rw[this]at e;exact .inl ⟨j,by omega,e⟩
  ·exact .inr (fv.1 h).1
 ·rintro(⟨j,hj,e⟩|h)
  ·exact .inl ⟨j,by omega,(ue Place.blk (t7 (by omega):(C.wake p o).φ j=C.φ j)).trans e⟩
  ·by_cases hb:b=p.blk
   ·exact .inl ⟨C.H.length,by omega,(ue Place.blk (t6 rfl:(C.wake p o).φ C.H.length=p)).trans hb.symm⟩
   ·exact .inr (fv.2 ⟨h,by simpa using hb⟩)
theorem TX{C:CG}{p:Place}{o:BU}(hp:p.blk∈C.res):AbC C (C.wake p o):=by
 have hφ: ∀j,j<C.H.length→(C.wake p o).φ j=C.φ j:=fun j hj=>t7 (by omega);have get: ∀j,j<C.H.length→(C.wake p o).H[j]? =C.H[j]? :=fun j hj=>bq hj;refine⟨⟨rfl,rfl,rfl⟩,bc _,by simp[CG.wake],fun b _ hn=>⟨rfl,fun h=>hn ((Wj hp b).1 h)⟩,?_,?_⟩
 ·intro j x hj hx;have:=Bg hj;exact⟨⟨x,by rw[get j this];exact hj,hx⟩,hφ j this⟩
 ·intro j fz sz els hj;obtain⟨t,hj',_⟩:=Ks hj;have:=Bg hj';exact⟨fz,els,by rw[yQ (get j this)];exact hj,bc _,fun _=>hφ j this⟩
theorem IV.wake{C₀ C:CG}(X:IV C₀ C){p:Place}{o:BU}(hp:p.blk∈C.res)(h0:C₀.w.heap.size≤p.blk):IV C₀ (C.wake p o):=by
 have Y:=TX (o:=o) hp;refine⟨X.rest,X.size,dj X.len Y.len,fun b hb hn=> ?_,?_,?_,fun b hb hl=> ?_⟩
 ·obtain⟨h1,h2⟩:=X.same b hb hn;exact⟨h1,fun h=>h2 ((Wj hp b).1 h)⟩
 ·intro id x h f;obtain⟨⟨o',h',f'⟩,e⟩:=X.fixed id x h f;obtain⟨h2,e'⟩:=Y.fixed id o' h' f';exact⟨h2,e'.trans e⟩
 ·intro id fz sz els h;obtain⟨fz',els',h',l,e⟩:=X.row id fz sz els h;obtain⟨fz'',els'',h'',l',e'⟩:=Y.row id fz' sz els' h';exact⟨fz'',els'',h'',dj l l',fun q=>(e' (by omega)).trans (e (by omega))⟩
 ·obtain⟨h1,h2⟩:=X.kept b hb hl;exact⟨fv.2 ⟨h1,by simp;omega⟩,h2⟩
theorem Inv.wake{tb:CV}{C:CG}(I:Inv tb C){p:Place}{o:BU}(hp:p.blk∈C.res)(ob:Obj (C.wake p o) p o):Inv tb (C.wake p o):=by
 have Y:=TX (o:=o) hp;have hφ: ∀j,j<C.H.length→(C.wake p o).φ j=C.φ j:=fun j hj=>t7 (by omega);have hφn:(C.wake p o).φ C.H.length=p:=t6 rfl;have hlen:(C.wake p o).H.length=C.H.length+1:=by simp[CG.wake]
 have get: ∀j,j<C.H.length→(C.wake p o).H[j]? =C.H[j]? :=fun j hj=>bq hj;have getn:(C.wake p o).H[C.H.length]? =some o:=by simp[CG.wake]
 obtain⟨r1,r2⟩:=I.rs _ hp;refine⟨?_,?_,?_,?_,?_,fun b hb=> ?_⟩
 ·intro j x hj;have:=Bg hj;rw[hlen]at this
  by_cases hji:j=C.H.length
  ·subst hji;rw[getn]at hj;obtain rfl:=be hj;rw[hφn];exact ob
  ·have hl:j<C.H.length:=by omega
   rw[get j hl]at hj;rw[hφ j hl];exact xY Y rfl (I.obj j x hj)
 ·intro i j hi hj e;rw[hlen]at hi hj
  by_cases hii:i=C.H.length<;>by_cases hji:j=C.H.length
  ·rw[hii,hji]
  ·subst hii;rw[hφ j (by omega),hφn]at e;exact absurd e.symm (r2 j (by omega))
  ·subst hji;rw[hφ i (by omega),hφn]at e;exact absurd e (r2 i (by omega))
  ·rw[hφ i (by omega),hφ j (by omega)]at e;exact I.inj i j (by omega) (by omega) e
 ·intro i hi;rw[hlen]at hi
  by_cases hii:i=C.H.length
  ·subst hii;rw[hφn];exact r1
  ·rw[hφ i (by omega)];exact I.lt i (by omega)
 ·intro g cs hg;obtain⟨h1,h2,h3,vs,h4,h5⟩:=I.gl g cs hg;exact⟨h1,fun h=>h2 ((Wj hp g).1 h),h3,vs,h4,Gj Y h5⟩
 ·intro g hg;obtain⟨h1,h2⟩:=I.it g hg;exact⟨fun h=>h1 ((Wj hp g).1 h),h2⟩
 ·obtain⟨h1,h2⟩:=fv.1 hb;obtain⟨h3,h4⟩:=I.rs b h1;refine⟨h3,fun i hi=> ?_⟩;rw[hlen]at hi
  by_cases hii:i=C.H.length
  ·subst hii;rw[hφn];intro e;simp[e]at h2
  ·rw[hφ i (by omega)];exact h4 i (by omega)
theorem yG{C:CG}{p:Place}{cs:List AV}{vs:Array Value}{e:TypeId}(h:C.w.heap[p.blk]? =some (.cells vs e (0,0)))(hz:P8 cs vs.toList=true):
  Obj (C.wake p (BU.cells (some e) cs)) p (BU.cells (some e) cs):=by
 obtain⟨h1,h2⟩:=Oa (C:=C.wake p (BU.cells (some e) cs)) hz;have hn:(C.wake p (BU.cells (some e) cs)).w.heap[p.blk]? =some (.cells vs e (0,0)):=h;refine⟨vs.toList,vs,e,(0,0),⟨hn,fun k hk=>by cases hk;rfl⟩,by have:=h1.length;simpa using this,h2,h1,?_,?_⟩
 ·intro j v hj;simp only[gg,hn,dc];simpa using hj
 ·intro o ho;simp only[j1,hn];simp
end
section
theorem Xd(f:Fr)(d t:Nat)(v:AV):get (put f (some d) v) t=if d=t then v else get f t:=rfl
def Ki(P:Program)(t:Nat)(z:List AV)(o:Oper):Prop:=
 ∀(ev:Operand→Value) (w:World),∃vs:Array Value,(execOp ev o).run P w= .ok (.value (.pointer (some ⟨w.heap.size,0,none⟩))) (w.alloc (.cells vs t))∧P8 z vs.toList=true
theorem Ab4{P:Program}{t:TypeId}{z:List AV}{i:TypeInfo}{zv:Value}{o:Oper}(ho:o.op= .alloc t)(hi:P.info? t=some i)(hz:i.zero=some zv)(hv:P8 z zv.cells.toList=true):Ki P t z o:=by
 intro ev w;refine⟨zv.cells,?_,hv⟩;simp only[execOp,ho,Instr.alloc,zeroValue,Sem.run_bind,HH hi,Result.andThen_ok,hz,Sem.run_pure,newVar,newRow,run_newObj]
 rfl
theorem kQ{P:Program}{t0:Nat}{z:List AV}{o:Oper}(h:WN P t0 z o=true):Ki P t0 z o:=by
 unfold WN at h
 split at h
 ·rename_i t ho
  split at h
  ·rename_i zv hz;obtain⟨i,hi,hz2⟩:=ad.1 hz;rw[af]at h;obtain rfl:=cm h.1;exact Ab4 ho hi hz2 h.2
  ·cases h
 ·cases h
theorem zJ{P:Program}{t0:Nat}{z:List AV}{o:Oper}(h:okOp P (.alloc t0 z) o=true):Ki P t0 z o:=kQ h
structure Pd(l:List Bh)(ws:List (Option (Nat×Nat)))(C:CG)(f:Fr)(a:Act)(n0 k i b t ty:Nat)(z:List AV):Prop where
 op:l[i]? =some ⟨some t,none, .alloc ty z⟩
 wr:ws[i]? =some none
 rk:k≤CH ws i
 res:b∈C.res
 new:n0≤b
 junk:get f t= .junk
 tmp:a.tmps.getD t undef= .pointer (some ⟨b,0,none⟩)
 cells: ∃vs:Array Value,C.w.heap[b]? =some (.cells vs ty (0,0))∧P8 z vs.toList=true
theorem Pd.wake{tb:CV}{l:List Bh}{ws:List (Option (Nat×Nat))}{C₀ C:CG}{f:Fr}{a:Act}{nt k i b t ty:Nat}{z:List AV}(p:Pd l ws C f a C₀.w.heap.size k i b t ty z)(X:IV C₀ C)(I:Inv tb C)(F:BB C f a nt):
  ∃D:CG,IV C₀ D∧AbC C D∧Inv tb D∧D.w=C.w∧D.H=C.H++[BU.cells (some ty) z]∧BB D (put f (some t) (.ptr C.H.length 0)) a nt∧(∀x∈C.res,x≠b→x∈D.res):=by
 obtain⟨vs,h1,h2⟩:=p.cells
 let q:Place:=⟨b,0,vs.size⟩
 have hq:q.blk∈C.res:=p.res;refine⟨C.wake q (BU.cells (some ty) z),X.wake hq p.new,TX hq,I.wake hq (yG h1 h2),rfl,rfl,⟨fun u=> ?_,F.size,F.defers⟩,fun x hx hne=>fv.2 ⟨hx,by simpa using hne⟩⟩;rw[Xd]
 by_cases hu:t=u
 ·subst hu;rw[t6 rfl,p.tmp];have hφ:(C.wake q (BU.cells (some ty) z)).φ C.H.length=q:=t6 rfl;exact⟨⟨BU.cells (some ty) z,by simp[CG.wake],rfl⟩,by rw[hφ]⟩
 ·rw[t7 hu];exact XM (TX hq) (F.rep u)
end
section
abbrev PdE:=Nat×Nat×Nat×Nat×List AV
structure yD(rs:Array Oper)(l:List Bh)(ws:List (Option (Nat×Nat)))(hs:List A6)(fr:Nat→Fr)(vl:Nat→AV)(listed:Array Bool)(C₀ C:CG)(f:Fr)(a:Act)(k:Nat)(pd:List PdE):Prop where
 size:listed.size=rs.size
 down: ∀i,On listed i→ ∀e∈Qd rs i,On listed e
 hk:hs[k]? =some C.H
 on: ∀j,j<rs.size→ws[j]? =some none→(On listed j↔CH ws j<k∨ ∃p∈pd,p.1=j)
 pds: ∀p∈pd,On listed p.1∧Pd l ws C f a C₀.w.heap.size k p.1 p.2.1 p.2.2.1 p.2.2.2.1 p.2.2.2.2
 nd: ∀p∈pd,∀q∈pd,p.1≠q.1→p.2.1≠q.2.1
 vals: ∀i ai t,On listed i→l[i]? =some ai→ai.d=some t→(∀p∈pd,p.1≠i)→get f t=vl i
 rest: ∀t,(∀i ai,On listed i→l[i]? =some ai→ai.d≠some t)→get f t=get (fr 0) t
theorem settle{tb:CV}{nt:Nat}{rs:Array Oper}{l:List Bh}{ws:List (Option (Nat×Nat))}{hs:List A6}{fr:Nat→Fr}{vl:Nat→AV}{listed:Array Bool}{C₀:CG}{a:Act}
  (c4: ∀(i j:Nat) (x y:Bh) (t:Nat),l[i]? =some x→l[j]? =some y→i≠j→x.d=some t→y.d≠some t)
  (hA: ∀i t ty z,l[i]? =some ⟨some t,none, .alloc ty z⟩→ws[i]? =some none→ ∀H,hs[CH ws i]? =some H→hs[CH ws i+1]? =some (H++[BU.cells (some ty) z])∧vl i= .ptr H.length 0):
  ∀(n:Nat) (C:CG) (f:Fr) (k:Nat) (pd:List PdE),pd.length≤n→yD rs l ws hs fr vl listed C₀ C f a k pd→IV C₀ C→Inv tb C→BB C f a nt→
   ∃D f' k' pd',yD rs l ws hs fr vl listed C₀ D f' a k' pd'∧IV C₀ D∧Inv tb D∧BB D f' a nt∧D.w=C.w∧ ∀p∈pd',k'<CH ws p.1:=by
 intro n
 induction n with
 |zero=>
  intro C f k pd hn S X I F;obtain rfl:=im.1 (Nat.le_zero.1 hn);exact⟨C,f,k,[],S,X,I,F,rfl,fun p hp=>by cases hp⟩
 |succ n ih=>
  intro C f k pd hn S X I F
  by_cases hall: ∀p∈pd,k<CH ws p.1
  ·exact⟨C,f,k,pd,S,X,I,F,rfl,hall⟩
  ·obtain⟨p,hp,hr⟩: ∃p,p∈pd∧ ¬k<CH ws p.1:=by
    refine gw fun h=>hall fun p hp=>gw fun h2=>h ⟨p,hp,h2⟩
   obtain⟨hon,P⟩:=S.pds p hp;have hrk:CH ws p.1=k:=by have:=P.rk;omega
   obtain⟨D,X2,X0,ID,hw,hH,FD,hres⟩:=P.wake X I F;obtain⟨hs1,hv⟩:=hA p.1 _ _ _ P.op P.wr C.H (by rw[hrk];exact S.hk);have inj: ∀j,ws[j]? =some none→CH ws j=k→j=p.1:=fun j hj e=>by
    rcases Nat.lt_trichotomy j p.1 with h|h|h
    ·have:=OW hj h;omega
    ·exact h
    ·have:=OW P.wr h;omega
   have S2:yD rs l ws hs fr vl listed C₀ D (put f (some p.2.2.1) (.ptr C.H.length 0)) a (k+1) (pd.filter fun q=>q.1 != p.1):=by
    refine⟨S.size,S.down,by rw[hH,←hrk];exact hs1,fun j hj hwj=> ?_,fun q hq=> ?_,fun q hq r hr=>S.nd q (fv.1 hq).1 r (fv.1 hr).1,fun i ai t ho hi hd hno=> ?_,fun t ht=> ?_⟩
    ·rw[S.on j hj hwj];constructor
     ·rintro(h|⟨q,hq,rfl⟩)
      ·exact .inl (by omega)
      ·by_cases e:q.1=p.1
       ·exact .inl (by rw[e,hrk];omega)
       ·exact .inr ⟨q,fv.2 ⟨hq,by simpa using e⟩,rfl⟩
     ·rintro(h|⟨q,hq,rfl⟩)
      ·by_cases e:CH ws j=k
       ·exact .inr ⟨p,hp,(inj j hwj e).symm⟩
       ·exact .inl (by omega)
      ·exact .inr ⟨q,(fv.1 hq).1,rfl⟩
    ·obtain⟨hq1,hq2⟩:=fv.1 hq;have hne:q.1≠p.1:=by simpa using hq2
     obtain⟨ho,Q⟩:=S.pds q hq1;refine⟨ho,Q.op,Q.wr,?_,hres _ Q.res (S.nd q hq1 p hp hne),Q.new,?_,Q.tmp,by rw[hw];exact Q.cells⟩
     ·have:=Q.rk;have:CH ws q.1≠k:=fun e=>hne (inj _ Q.wr e);omega
     ·rw[Xd,t7]
      ·exact Q.junk
      ·intro e;exact c4 p.1 q.1 _ _ _ P.op Q.op (iz hne) rfl (by rw[e])
    ·rw[Xd]
     by_cases hi2:i=p.1
     ·subst hi2;rw[P.op]at hi;obtain rfl:=be hi;rw[t6 (be hd),hv]
     ·rw[t7 fun e=>c4 p.1 i _ _ _ P.op hi (iz hi2) rfl (by rw[hd,e])];refine S.vals i ai t ho hi hd fun q hq e=> ?_;exact hno q (fv.2 ⟨hq,by simpa using fun h=>hi2 (e.symm.trans h)⟩) e
    ·rw[Xd,t7 fun e=>ht p.1 _ hon P.op (by rw[e])];exact S.rest t ht
   have hlt:(pd.filter fun q=>q.1 != p.1).length<pd.length:=by
    refine Nat.lt_of_le_of_ne (List.length_filter_le _ _) fun e=> ?_;have:=(List.length_filter_eq_length_iff.1 e) p hp;simp at this
   obtain⟨E,f',k',pd',S3,X3,I3,F3,w3,h3⟩:=ih D _ (k+1) _ (by omega) S2 X2 ID FD;exact⟨E,f',k',pd',S3,X3,I3,F3,w3.trans hw,h3⟩
end
section
def GV(l:List Bh)(i:Nat):Bool:=match l[i]? with
 |some ⟨some _,none, .alloc _ _⟩=>true
 |_=>false
theorem ZM{l:List Bh}{i:Nat}(h:GV l i=true): ∃t ty z,l[i]? =some ⟨some t,none, .alloc ty z⟩:=by
 unfold GV at h
 split at h
 ·rename_i t ty z e;exact⟨t,ty,z,e⟩
 ·cases h
def Un(rs:Array Oper)(l:List Bh)(ws:List (Option (Nat×Nat)))(i j:Nat):Bool:=
 match l[i]?,l[j]? with
 |some x,some y=>
  (match x.d with|some t=>decide (y.d≠some t)|none=>true)&&
  (match y.d with|some t=> !(looks x).contains t||(if j<i then QO rs rs.size j i&&(!GV l j||(match ws[i]? with|some (some (lo,_))=>decide (CH ws j<lo)|_=> !GV l i))else QO rs rs.size i j)|none=>true)&&
  (match ws[i]?,ws[j]? with
   |some none,some none=> !decide (j<i)||(QO rs rs.size j i||GV l i)
   |some (some (lo,hi)),some none=>(!decide (CH ws j<lo)||QO rs rs.size j i)&&(!decide (CH ws j=hi)||QO rs rs.size i j)
   |_,_=>true)
 |_,_=>true
def okD2(T:GI→Oper→Bool)(nt:Nat)(rs:Array Oper)(l:List Bh)(ws:List (Option (Nat×Nat))):Bool:=
 Ho T nt rs l rs.toList&&(lz rs.size).all fun i=>
  (Qd rs i).all (fun e=>decide (e<i))&&
  (match ws[i]? with|some (some (lo,_))=>decide (lo≤CH ws rs.size)|_=>true)&&
  (lz rs.size).all fun j=>i==j||Un rs l ws i j
section
variable{T:GI→Oper→Bool}{nt:Nat}{rs:Array Oper}{l:List Bh}{ws:List (Option (Nat×Nat))}
theorem okD2_spec(h:okD2 T nt rs l ws=true):l.length=rs.size∧(∀(i:Nat) (x:Bh) (o:Oper),l[i]? =some x→rs[i]? =some o→eY T nt rs x o=true)∧(∀i,i<rs.size→ ∀e∈Qd rs i,e<i)∧
  (∀(i j:Nat) (x y:Bh) (t:Nat),l[i]? =some x→l[j]? =some y→i≠j→x.d=some t→y.d≠some t)∧
  (∀(i j:Nat) (x y:Bh) (t:Nat),l[i]? =some x→l[j]? =some y→y.d=some t→t∈looks x→(j<i∧QO rs rs.size j i=true∧(GV l j=true→(∃lo hi,ws[i]? =some (some (lo,hi))∧CH ws j<lo)∨((∀p,ws[i]? ≠some (some p))∧GV l i=false)))∨(i<j∧QO rs rs.size i j=true)∨i=j)∧
  (∀i j,i<rs.size→j<rs.size→i≠j→ws[i]? =some none→ws[j]? =some none→j<i→QO rs rs.size j i=true∨GV l i=true)∧
  (∀i j lo hi,i<rs.size→j<rs.size→ws[i]? =some (some (lo,hi))→ws[j]? =some none→(CH ws j<lo→QO rs rs.size j i=true)∧(CH ws j=hi→QO rs rs.size i j=true))∧
  (∀i lo hi,i<rs.size→ws[i]? =some (some (lo,hi))→lo≤CH ws rs.size):=by
 simp only[okD2,af,cb,List.mem_range,t8,fu,beq_iff_eq]at h;obtain⟨h1,h2⟩:=h;have hlen:l.length=rs.size:=by rw[Tl h1];simp
 have lt: ∀{i x},l[i]? =some x→i<rs.size:=fun{i x} e=>by have:=Bg e;omega
 have pair: ∀i j,i<rs.size→j<rs.size→i≠j→Un rs l ws i j=true:=fun i j hi hj hne=>((h2 i hi).2 j hj).resolve_left hne;refine⟨hlen,fun i x o hx ho=>Z1 h1 hx (by simpa using ho),fun i hi=>(h2 i hi).1.1,?_,?_,?_,?_,fun i lo hi hil hw=> ?_⟩
 ·intro i j x y t hx hy hne hd;have:=pair i j (lt hx) (lt hy) hne;simp only[Un,hx,hy,hd,af,t8]at this;exact this.1.1
 ·intro i j x y t hx hy hd ht
  by_cases hij:i=j
  ·exact .inr (.inr hij)
  ·have:=pair i j (lt hx) (lt hy) hij;simp only[Un,hx,hy,hd,af,fu,ck]at this;rcases this.1.2 with h|h
   ·simp[ht]at h
   ·by_cases hlt:j<i
    ·rw[t6 hlt,af,fu]at h;refine .inl ⟨hlt,h.1,fun he=> ?_⟩;rcases h.2 with h3|h3
     ·rw[he]at h3;cases h3
     ·split at h3
      ·rename_i lo hi hw;exact .inl ⟨lo,hi,hw,of_decide_eq_true h3⟩
      ·rename_i hw;refine .inr ⟨fun p e=> ?_,by simpa using h3⟩;exact hw p.1 p.2 e
    ·rw[t7 hlt]at h;exact .inr (.inl ⟨by omega,h⟩)
 ·intro i j hi hj hne hwi hwj hlt;have:=pair i j hi hj hne;obtain⟨x,hx⟩: ∃x,l[i]? =some x:=⟨_,ab (by omega)⟩;obtain⟨y,hy⟩: ∃x,l[j]? =some x:=⟨_,ab (by omega)⟩;simp only[Un,hx,hy,hwi,hwj,af,fu,ck,decide_eq_false_iff_not]at this;exact this.2.resolve_left (by omega)
 ·intro i j lo hi hil hjl hwi hwj;have hne:i≠j:=by rintro rfl;rw[hwi]at hwj;cases hwj
  have:=pair i j hil hjl hne;obtain⟨x,hx⟩: ∃x,l[i]? =some x:=⟨_,ab (by omega)⟩;obtain⟨y,hy⟩: ∃x,l[j]? =some x:=⟨_,ab (by omega)⟩;simp only[Un,hx,hy,hwi,hwj,af,fu,ck,decide_eq_false_iff_not]at this;exact⟨fun h=>this.2.1.resolve_left (by omega),fun h=>this.2.2.resolve_left (by omega)⟩
 ·have:=(h2 i hil).1.2;simpa only[hw,t8]using this
end
end
section
theorem Pd.next{l:List Bh}{ws:List (Option (Nat×Nat))}{C D:CG}{f:Fr}{a:Act}{n0 k k' i b t ty:Nat}{z:List AV}(p:Pd l ws C f a n0 k i b t ty z)(hb:b<C.w.heap.size)(X:IV C D)(hk:k'≤CH ws i)
  {d:Option Nat} (hd:d≠some t) (x:AV) (v:Value):Pd l ws D (put f d x) (a.put d v) n0 k' i b t ty z:=by
 obtain⟨h1,h2⟩:=X.kept b p.res hb;refine⟨p.op,p.wr,hk,h1,p.new,?_,?_,?_⟩
 ·rw[Pe,t7 hd];exact p.junk
 ·rw[←p.tmp];cases d with
  |none=>rfl
  |some u=>
   have e:u≠t:=fun e=>hd (by rw[e]);simp only[Act.put];simp[cv,jh e]
 ·obtain⟨vs,h3,h4⟩:=p.cells;exact⟨vs,h2.trans h3,h4⟩
section
variable{rs:Array Oper}{l:List Bh}{ws:List (Option (Nat×Nat))}{hs:List A6}{fr:Nat→Fr}{vl:Nat→AV}{listed:Array Bool}{C₀ C:CG}{f:Fr}{a:Act}{m:Nat}{pd:List PdE}
theorem yD.turn(S:yD rs l ws hs fr vl listed C₀ C f a m pd)(hpd: ∀p∈pd,m<CH ws p.1){j:Nat}(hj:j<rs.size)(hw:ws[j]? =some none)(e:CH ws j=m): ¬On listed j:=by
 intro h;rcases(S.on j hj hw).1 h with h|⟨p,hp,rfl⟩
 ·omega
 ·have:=hpd p hp;omega
theorem yD.window(S:yD rs l ws hs fr vl listed C₀ C f a m pd)(hpd: ∀p∈pd,m<CH ws p.1)(hml:m≤CH ws rs.size)
  (c7: ∀i j lo hi,i<rs.size→j<rs.size→ws[i]? =some (some (lo,hi))→ws[j]? =some none→(CH ws j<lo→QO rs rs.size j i=true)∧(CH ws j=hi→QO rs rs.size i j=true))
  (c8: ∀i lo hi,i<rs.size→ws[i]? =some (some (lo,hi))→lo≤CH ws rs.size) {i:Nat} (hil:i<rs.size) (hno: ¬On listed i) (hall: ∀e∈Qd rs i,On listed e) {lo hi:Nat} (hwi:ws[i]? =some (some (lo,hi))):lo≤m∧m≤hi:=by
 constructor
 ·refine o7 fun h=> ?_;obtain⟨j,hj,hwj,hrj⟩: ∃j,j<rs.size∧ws[j]? =some none∧CH ws j=m:=Ue (dv h (c8 i lo hi hil hwi));exact S.turn hpd hj hwj hrj (NH S.down ((c7 i j lo hi hil hj hwi hwj).1 (by omega)) hall)
 ·refine o7 fun h=> ?_
  by_cases ht:hi<CH ws rs.size
  ·obtain⟨j,hj,hwj,hrj⟩: ∃j,j<rs.size∧ws[j]? =some none∧CH ws j=hi:=Ue ht;have hon:=(S.on j hj hwj).2 (.inl (by omega));exact hno (NH S.down ((c7 i j lo hi hil hj hwi hwj).2 (by omega)) (S.down j hon))
  ·omega
theorem yD.place(S:yD rs l ws hs fr vl listed C₀ C f a m pd)(hpd: ∀p∈pd,m<CH ws p.1)
  (c6: ∀i j,i<rs.size→j<rs.size→i≠j→ws[i]? =some none→ws[j]? =some none→j<i→QO rs rs.size j i=true∨GV l i=true) {i:Nat} (hil:i<rs.size) (hno: ¬On listed i) (hall: ∀e∈Qd rs i,On listed e) (hwi:ws[i]? =some none):
  m≤CH ws i∧(GV l i=false→CH ws i=m):=by
 have h1:m≤CH ws i:=o7 fun h=>hno ((S.on i hil hwi).2 (.inl h));refine⟨h1,fun he=> ?_⟩;refine gw fun hne=> ?_;obtain⟨j,hj,hwj,hrj⟩:=Ue (show m<CH ws i by omega);rcases c6 i j hil (by omega) (by omega) hwi hwj hj with h|h
 ·exact S.turn hpd (by omega) hwj hrj (NH S.down h hall)
 ·rw[he]at h;cases h
theorem yD.noPend(S:yD rs l ws hs fr vl listed C₀ C f a m pd)(hpd: ∀p∈pd,m<CH ws p.1)(hml:m≤CH ws rs.size)
  (c6: ∀i j,i<rs.size→j<rs.size→i≠j→ws[i]? =some none→ws[j]? =some none→j<i→QO rs rs.size j i=true∨GV l i=true)
  (c7: ∀i j lo hi,i<rs.size→j<rs.size→ws[i]? =some (some (lo,hi))→ws[j]? =some none→(CH ws j<lo→QO rs rs.size j i=true)∧(CH ws j=hi→QO rs rs.size i j=true))
  (c8: ∀i lo hi,i<rs.size→ws[i]? =some (some (lo,hi))→lo≤CH ws rs.size) {i:Nat} (hil:i<rs.size) (hno: ¬On listed i) (hall: ∀e∈Qd rs i,On listed e) {w:Option (Nat×Nat)} (hwi:ws[i]? =some w) {j:Nat} (hji:j<i)
  (h:GV l j=true→(∃lo hi,ws[i]? =some (some (lo,hi))∧CH ws j<lo)∨((∀p,ws[i]? ≠some (some p))∧GV l i=false)): ∀p∈pd,p.1≠j:=by
 rintro p hp rfl;have P:=(S.pds p hp).2;have hr:=hpd p hp;have he:GV l p.1=true:=by unfold GV;rw[P.op]
 rcases h he with ⟨lo,hi,hw,hlt⟩|⟨hw,he2⟩
 ·have:=(S.window hpd hml c7 c8 hil hno hall hw).1;omega
 ·cases w with
  |some q=>exact hw q hwi
  |none=>
   have:=(S.place hpd c6 hil hno hall hwi).2 he2;have:=OW P.wr hji;omega
end
end
section
section
variable{T:GI→Oper→Bool}{P:Program}{tb:CV}{cl:Nat→List AV→A6→M2}{nt:Nat}{rs:Array Oper}{l:List Bh}{ws:List (Option (Nat×Nat))}{hs:List A6}{fr:Nat→Fr}{vl:Nat→AV}
theorem Ab3(hT: ∀ao o,T ao o=true→El P tb ao o)(hAl: ∀t z o,T (.alloc t z) o=true→Ki P t z o)(hcl:Fh P tb fun g args h=>BD tb cl h g args){Q:Exit→Act→World→Prop}(hok:okD2 T nt rs l ws=true)
  (hk:CH ws l.length+1=hs.length) (hstep: ∀i ao,l[i]? =some ao→fr (i+1)=put (fr i) ao.d (vl i)∧ ∃w,ws[i]? =some w∧Stepped tb cl hs (CH ws i) ao w (fr i) (vl i)) {C₀:CG}
  (k: ∀(D:CG) (a':Act),IV C₀ D→Inv tb D→hs.getLast?=some D.H→BB D (fr l.length) a' nt→Q .normal a' D.w):
  ∀(fuel:Nat) (listed:Array Bool) (C:CG) (f:Fr) (a:Act) (m:Nat) (pd:List PdE),listed.toList.count false≤fuel→yD rs l ws hs fr vl listed C₀ C f a m pd→(∀p∈pd,m<CH ws p.1)→IV C₀ C→Inv tb C→BB C f a nt→wpAny P .any rs Q fuel listed a C.w:=by
 obtain⟨c1,c2,c3,c4,c5,c6,c7,c8⟩:=okD2_spec hok;have lexf:=fD (fun i ao h=>(hstep i ao h).1) c4;have fin: ∀(listed:Array Bool) (C:CG) (f:Fr) (a:Act) (m:Nat) (pd:List PdE),Region.ready .any rs listed=[]→yD rs l ws hs fr vl listed C₀ C f a m pd→(∀p∈pd,m<CH ws p.1)→IV C₀ C→Inv tb C→BB C f a nt→Q .normal a C.w:=by
  intro listed C f a m pd hr S hpd X I F;have all: ∀n i,i<n→i<rs.size→On listed i:=by
   intro n
   induction n with
   |zero=>intro i h;omega
   |succ n ih=>
    intro i hi hil;refine gw fun hno=> ?_;have:i∈Region.ready .any rs listed:=(Yv S.size).2 ⟨hil,hno,fun e he=>ih e (by have:=c3 i hil e he;omega) (by have:=c3 i hil e he;omega)⟩;rw[hr]at this;cases this
  have all': ∀i,i<rs.size→On listed i:=fun i hi=>all (i+1) i (by omega) hi;obtain⟨q1,q2⟩:=lexf l.length (bc _);have hml:=Bg S.hk;have hmt:m=CH ws l.length:=by
   refine gw fun hne=> ?_;obtain⟨j,hj,hwj,hrj⟩:=Ue (ws:=ws) (n:=l.length) (k:=m) (by omega);rcases(S.on j (by omega) hwj).1 (all' j (by omega))with h|⟨p,hp,rfl⟩
   ·omega
   ·have:=hpd p hp;omega
  have hnil: ∀p∈pd,False:=fun p hp=>by
   have h1:=hpd p hp;have P:=(S.pds p hp).2;have:=OW P.wr (Bg P.op);omega
  refine k C a X I ?_ ⟨fun t=> ?_,F.size,F.defers⟩
  ·rw[List.getLast?_eq_getElem?,←S.hk];congr 1;omega
  ·have:get (fr l.length) t=get f t:=by
    by_cases hex: ∃(i:Nat) (x:Bh),l[i]? =some x∧x.d=some t
    ·obtain⟨i,x,hx,hd⟩:=hex;rw[q1 i x t (Bg hx) hx hd,S.vals i x t (all' i (by have:=Bg hx;omega)) hx hd fun p hp=>(hnil p hp).elim]
    ·rw[q2 t fun i x _ hx hd=>hex ⟨i,x,hx,hd⟩,S.rest t fun i x _ hx hd=>hex ⟨i,x,hx,hd⟩]
   rw[this];exact F.rep t
 intro fuel
 induction fuel with
 |zero=>
  intro listed C f a m pd hc S hpd X I F;have hr:Region.ready .any rs listed=[]:=by
   rw[List.eq_nil_iff_forall_not_mem];intro i hi;obtain⟨hil,hno,_⟩:=(Yv S.size).1 hi;have h0:listed.toList.count false=0:=by omega
   rw[List.count_eq_zero]at h0;apply hno;have hil':i<listed.size:=by rw[S.size];exact hil
   unfold On;rw[cv,ff hil'];simp only[io];cases hv:listed[i]with
   |true=>rfl
   |false=>exact absurd (by rw[←hv];simp) h0
  exact⟨hr,fin listed C f a m pd hr S hpd X I F⟩
 |succ fuel ih=>
  intro listed C f a m pd hc S hpd X I F;refine⟨fun hr=>fin listed C f a m pd hr S hpd X I F,fun i hi=> ?_⟩;obtain⟨hil,hno,hall⟩:=(Yv S.size).1 hi;have hil':i<listed.size:=by rw[S.size];exact hil
  obtain⟨o,ho⟩: ∃o,rs[i]? =some o:=⟨rs[i],ff hil⟩;obtain⟨ao,hao⟩: ∃x,l[i]? =some x:=⟨_,ab (by omega)⟩;obtain⟨g1,g2,g3,g4⟩:=Z2 (c2 i ao o hao ho);obtain⟨hfr,w,hwi,t,hwt,hfalse,htrue⟩:=hstep i ao hao;obtain⟨q1,q2⟩:=lexf i (by omega);have hml:m≤CH ws rs.size:=by have:=Bg S.hk;rw[←c1];omega
  have alike:Alike tb f (fr i) (looks ao):=by
   intro u hu
   by_cases hex: ∃(j:Nat) (x:Bh),l[j]? =some x∧x.d=some u
   ·obtain⟨j,x,hx,hd⟩:=hex;rcases c5 i j ao x u hao hx hd hu with ⟨hji,hanc,hearly⟩|hlate
    ·have hon:On listed j:=NH S.down hanc hall;rw[q1 j x u hji hx hd,S.vals j x u hon hx hd (S.noPend hpd hml c6 c7 c8 hil hno hall hwi hji hearly)]
    ·have hij:i≤j:=by rcases hlate with h|h<;>omega
     have hoff: ¬On listed j:=fun h=>by
      rcases hlate with ⟨_,hanc⟩|rfl
      ·exact hno (NH S.down hanc (S.down j h))
      ·exact hno h
     have one: ∀(k:Nat) (y:Bh),l[k]? =some y→y.d=some u→k=j:=fun k y hy hyd=>
      gw fun hne=>c4 k j y x u hy hx hne hyd hd
     rw[q2 u fun k y hk hy hyd=>by have:=one k y hy hyd;omega,S.rest u fun k y hk hy hyd=>hoff (one k y hy hyd▸hk)]
   ·rw[q2 u fun j x _ hx hd=>hex ⟨j,x,hx,hd⟩,S.rest u fun j x _ hx hd=>hex ⟨j,x,hx,hd⟩]
  have hwt':wanted f ao.g=some t:=by rw[pB alike.l];exact hwt
  have hwr:=cW F g3 hwt';have hm:=S.hk;have hcount:(listed.setIfInBounds i true).toList.count false≤fuel:=by
   have hv:listed[i]=false:=by
    cases hv:listed[i]with
    |false=>rfl
    |true=>exact absurd (by unfold On;rw[cv,ff hil',hv];rfl) hno
   rw[oa,List.count_set (by simpa using hil')];have hv':listed.toList[i]'(by simpa using hil')=false:=by simpa using hv
   have hpos:0<listed.toList.count false:=List.count_pos_iff.2 (by rw[←hv];simp);rw[hv'];simp only[beq_self_eq_true,uc,beq_iff_eq,Bool.true_eq_false,ud];omega
  have next: ∀(D:CG) (v:Value) (k':Nat),IV C D→(w=none→k'=m+1∧CH ws i=m)→(w≠none→k'=m)→hs[k']? =some D.H→yD rs l ws hs fr vl (listed.setIfInBounds i true) C₀ D (put f ao.d (vl i)) (a.put ao.d v) k' pd:=by
   intro D v k' X' hn hq hh;have hkm:k'≤m+1:=by
    by_cases hw:w=none
    ·rw[(hn hw).1];exact bc _
    ·rw[hq hw];exact Nat.le_succ _
   refine⟨by simp[S.size],?_,hh,?_,fun p hp=> ?_,S.nd,?_,?_⟩
   ·intro j hj e he;rw[L0 hil']at hj ⊢;rcases hj with rfl|hj
    ·exact .inr (hall e he)
    ·exact .inr (S.down j hj e he)
   ·intro j hj hwj;rw[L0 hil',S.on j hj hwj]
    by_cases hw:w=none
    ·obtain⟨e1,e2⟩:=hn hw;subst e1;constructor
     ·rintro(rfl|h|h)
      ·exact .inl (by omega)
      ·exact .inl (by omega)
      ·exact .inr h
     ·rintro(h|h)
      ·by_cases hji:j=i
       ·exact .inl hji
       ·right;left;subst hw;rcases ef j i with h'|h'
        ·have:=OW hwj h';omega
        ·have:=OW hwi (show i<j by omega);omega
      ·exact .inr (.inr h)
    ·rw[hq hw];have hji:j≠i:=by rintro rfl;rw[hwi]at hwj;exact hw (be hwj)
     exact⟨fun h=>h.resolve_left hji, .inr⟩
   ·obtain⟨hon,P'⟩:=S.pds p hp;have hpi:i≠p.1:=by rintro rfl;exact hno hon
    refine⟨(L0 hil').2 (.inr hon),P'.next (I.rs _ P'.res).1 X' (dj hkm (hpd p hp)) ?_ _ _⟩;intro e;exact c4 i p.1 ao _ _ hao P'.op hpi e rfl
   ·intro j x u hj hx hd hnp;rw[Pe];rw[L0 hil']at hj
    by_cases hji:j=i
    ·subst hji;rw[hao]at hx;obtain rfl:=be hx;rw[t6 hd]
    ·rw[t7 (c4 j i x ao u hx hao hji hd)];exact S.vals j x u (hj.resolve_left hji) hx hd hnp
   ·intro u hu;rw[Pe,t7 (hu i ao ((L0 hil').2 (.inl rfl)) hao)];exact S.rest u fun j x hj hx=>hu j x ((L0 hil').2 (.inr hj)) hx
  have hplace:w=none→m≤CH ws i∧(GV l i=false→CH ws i=m):=fun hw=>S.place hpd c6 hil hno hall (by rw[←hw];exact hwi);have hrange: ∀lo hi,w=some (lo,hi)→lo≤m∧m≤hi:=fun lo hi hw=>S.window hpd hml c7 c8 hil hno hall (by rw[←hw];exact hwi);have hA: ∀i t ty z,l[i]? =some ⟨some t,none, .alloc ty z⟩→ws[i]? =some none→ ∀H,hs[CH ws i]? =some H→hs[CH ws i+1]? =some (H++[BU.cells (some ty) z])∧vl i= .ptr H.length 0:=by
   intro i t ty z hi hwi H hH;obtain⟨_,w',hw',t',ht',_,htrue'⟩:=hstep i _ hi;have ht1:t'=true:=by
    simp only[wanted,ae]at ht';exact ht'.symm
   have hwn:w'=none:=by
    rw[hwi]at hw';exact(be hw').symm
   obtain⟨h,u,e1,e2,e3⟩:=(htrue' ht1).1 hwn;rw[hH]at e1;obtain rfl:=be e1;simp only[BA,ae,ch]at e2;obtain⟨e2,rfl⟩:=e2;exact⟨e3,e2.symm⟩
  have go: ∀(D:CG) (f':Fr) (a':Act) (k':Nat),yD rs l ws hs fr vl (listed.setIfInBounds i true) C₀ D f' a' k' pd→IV C₀ D→Inv tb D→BB D f' a' nt→wpAny P .any rs Q fuel (listed.setIfInBounds i true) a' D.w:=by
   intro D f' a' k' S' X' I' F';obtain⟨E,f2,k2,pd2,S2,X2,I2,F2,hw2,h2⟩:=settle c4 hA pd.length D f' k' pd (bc _) S' X' I' F';rw[←hw2];exact ih _ E f2 a' k2 pd2 hcount S2 h2 X2 I2 F2
  unfold wpOp;simp only[ho,hwr];rw[←g1];cases t with
  |false=>
   simp only[ah,ud];obtain⟨hv,hsame⟩:=hfalse rfl;have hearly:GV l i=false:=by
    cases he:GV l i with
    |false=>rfl
    |true=>
     obtain⟨t0,ty,z,he⟩:=ZM he;rw[hao]at he;obtain rfl:=be he;simp[wanted]at hwt
   have FD:=F.put (mj C) (fun t ht=>g2 t (g1▸ht)) (x:= .tup []) (v:= .tuple #[]) ⟨[],rfl,rfl⟩
   by_cases hw:w=none
   ·have hr:=(hplace hw).2 hearly;refine go C (put f ao.d (.tup [])) _ (m+1) ?_ X I FD;rw[←hv];refine next C _ (m+1) (mj C) (fun _=>⟨rfl,hr⟩) (fun h=>absurd hw h) ?_
    rw[←hr,←hsame hw,hr];exact hm
   ·refine go C (put f ao.d (.tup [])) _ m ?_ X I FD;rw[←hv];exact next C _ m (mj C) (fun h=>absurd h hw) (fun _=>rfl) hm
  |true=>
   simp only[uc];obtain⟨hW,hR⟩:=htrue rfl;have land: ∀(u:Option A6) (k':Nat),BA tb cl (eval tb f) C.H ao.o=some (vl i,u)→(w=none→k'=m+1∧CH ws i=m)→(w≠none→k'=m)→hs[k']? =some (u.getD C.H)→
     o.wp P a C.w (wpAny P .any rs Q fuel (listed.setIfInBounds i true)) Q:=by
    intro u k' hu h1 h2 h3;refine Zo (hT _ _ g4 hcl I F hu) fun v D X' ID hH hr=> ?_;rw[←g1];refine go D (put f ao.d (vl i)) _ k' ?_ (X.trans X') ID (F.put X' (fun t ht=>g2 t (g1▸ht)) hr);exact next D v k' X' h1 h2 (by rw[hH];exact h3)
   left;cases hw:w with
   |none=>
    by_cases hr:CH ws i=m
    ·obtain⟨h,u,e1,e2,e3⟩:=hW hw;rw[hr]at e1 e3;rw[hm]at e1;obtain rfl:=be e1;exact land u (m+1) (by rw[LJ alike.r];exact e2) (fun _=>⟨rfl,hr⟩) (fun hne=>absurd hw hne) e3
    ·have hmr:m<CH ws i:=by have:=(hplace hw).1;omega
     have he:GV l i=true:=by
      cases he:GV l i with
      |true=>rfl
      |false=>exact absurd ((hplace hw).2 he) hr
     obtain⟨t0,ty,z,he⟩:=ZM he;rw[hao]at he;obtain rfl:=be he;have hwn:ws[i]? =some none:=by rw[←hw];exact hwi
     obtain⟨vs,hrun,hz⟩:=hAl ty z o g4 a.eval C.w;have hnew:(C.w.alloc (.cells vs ty)).heap=C.w.heap.push (.cells vs ty (0,0)):=rfl;obtain⟨X',I'⟩:=reserve I (w:=C.w.alloc (.cells vs ty)) ⟨rfl,rfl,rfl⟩ (by rw[hnew];simp) (fun b hb=>by rw[hnew,Array.getElem?_push_lt hb,ff hb]);unfold Oper.wp;rw[hrun,Oper.upon_value,←g1];have F':BB ⟨C.φ,C.H,C.w.alloc (.cells vs ty),C.w.heap.size::C.res⟩ (put f (some t0) .junk) (a.put (some t0) (.pointer (some ⟨C.w.heap.size,0,none⟩))) nt:=F.put X' (fun t ht=>g2 t (g1▸ht)) trivial;have ht0:t0<nt:=g2 t0 (by rw[←g1]);have hlt: ∀p∈pd,p.2.1<C.w.heap.size:=fun p hp=>(I.rs _ (S.pds p hp).2.res).1;have hne: ∀p∈pd,i≠p.1:=fun p hp e=>hno (e▸(S.pds p hp).1);refine ih _ ⟨C.φ,C.H,C.w.alloc (.cells vs ty),C.w.heap.size::C.res⟩ (put f (some t0) .junk) _ m ((i,C.w.heap.size,t0,ty,z)::pd) hcount ?_ ?_ (X.trans X') I' F'
     ·refine⟨by simp[S.size],?_,hm,?_,?_,?_,?_,?_⟩
      ·intro j hj e hew;rw[L0 hil']at hj ⊢;rcases hj with rfl|hj
       ·exact .inr (hall e hew)
       ·exact .inr (S.down j hj e hew)
      ·intro j hj hwj;rw[L0 hil',S.on j hj hwj];constructor
       ·rintro(rfl|h|⟨p,hp,rfl⟩)
        ·exact .inr ⟨_,bg,rfl⟩
        ·exact .inl h
        ·exact .inr ⟨p,a8 _ hp,rfl⟩
       ·rintro(h|⟨p,hp,rfl⟩)
        ·exact .inr (.inl h)
        ·rcases bm.1 hp with rfl|hp
         ·exact .inl rfl
         ·exact .inr (.inr ⟨p,hp,rfl⟩)
      ·intro p hp;rcases bm.1 hp with rfl|hp
       ·refine⟨(L0 hil').2 (.inl rfl),hao,hwn,ph hmr,bg,X.size,?_,?_,vs,?_,hz⟩
        ·rw[Pe,t6 rfl]
        ·simp only[Act.put];simp[cv,F.size,ht0]
        ·rw[hnew];simp
       ·obtain⟨hon,P'⟩:=S.pds p hp;refine⟨(L0 hil').2 (.inr hon),P'.next (hlt p hp) X' P'.rk ?_ _ _⟩;intro e;exact c4 i p.1 _ _ _ hao P'.op (hne p hp) rfl (by rw[←e])
      ·intro p hp q hq hpq;rcases bm.1 hp with rfl|hp<;>rcases bm.1 hq with rfl|hq
       ·exact absurd rfl hpq
       ·exact iz (sd (hlt q hq))
       ·exact sd (hlt p hp)
       ·exact S.nd p hp q hq hpq
      ·intro j x u hj hx hd hnp;rw[Pe];rw[L0 hil']at hj;have hji:j≠i:=fun e=>hnp _ bg e.symm;rw[t7 (c4 j i x _ u hx hao hji hd)];exact S.vals j x u (hj.resolve_left hji) hx hd fun p hp=>hnp p (a8 _ hp)
      ·intro u hu;rw[Pe,t7 (hu i _ ((L0 hil').2 (.inl rfl)) hao)];exact S.rest u fun j x hj hx=>hu j x ((L0 hil').2 (.inr hj)) hx
     ·intro p hp;rcases bm.1 hp with rfl|hp
      ·exact hmr
      ·exact hpd p hp
   |some p=>
    obtain⟨lo,hi⟩:=p;obtain⟨r1,r2⟩:=hrange lo hi hw;obtain⟨h,u,e1,e2,e3⟩:=hR lo hi hw m r1 r2;rw[hm]at e1;obtain rfl:=be e1;exact land u m (by rw[LJ alike.r];exact e2) (fun hn=>absurd (hn.symm.trans hw) (by simp)) (fun _=>rfl) (by rw[e3];exact hm)
theorem st2_zero{hs:List A6}{fr:Nat→Fr}{vl:Nat→AV}{C₀ C:CG}{a:Act}(hh:hs[0]? =some C.H):
  yD rs l ws hs fr vl (qd rs.size false) C₀ C (fr 0) a 0 []:=by
 have hoff: ∀i,¬On (qd rs.size false) i:=by
  intro i h;unfold On at h;rw[cv,Array.getElem?_replicate]at h
  split at h<;>simp at h
 exact⟨by simp,fun i h=>absurd h (hoff i),hh,fun j _ _=>⟨fun h=>absurd h (hoff j),fun h=>h.elim (fun h=>absurd h (mn _)) fun⟨_,hp,_⟩=>absurd hp f8⟩,fun _ hp=>absurd hp f8,fun _ hp=>absurd hp f8,fun i _ _ h=>absurd h (hoff i),fun _ _=>rfl⟩
end
end
section
def qF(l:List Bh):List (Option (Nat×Nat)):=l.map fun _=>some (0,0)
def VA(T:GI→Oper→Bool)(nt:Nat):AC→Code→Bool
 | .skip, .skip=>true
 | .reg l, .region _ rs false=>Ho T nt rs l rs.toList
 | .regq l, .region _ rs true=>okD2 T nt rs l (qF l)
 | .regd l ws, .region _ rs true=>okD2 T nt rs l ws
 | .seq x y, .seq c d=>VA T nt x c&&VA T nt y d
 | .cond x a b, .cond y c d=>Bz x y&&VA T nt a c&&VA T nt b d
 | .blk id x, .block id' c=>id==id'&&VA T nt x c
 | .loop _ x, .loop c=>VA T nt x c
 | .exit id, .exit id'=>id==id'
 | .ret, .ret=>true
 | .keep _ x,c=>VA T nt x c
 | .scope x, .scope c=>VA T nt x c
 | .skip, .label _=>true
 | .stop,_=>true
 |_,_=>false
def exOf:Ex→Exit
 | .normal=> .normal
 | .exit id=> .exit id
 | .ret=> .ret
section
variable{T:GI→Oper→Bool}{P:Program}{tb:CV}{cl:Nat→List AV→A6→M2}{nt:Nat}
theorem qJ{h:A6}: ∀(l:List Bh) {f f':Fr},Jm tb cl h l f=some f'→Le tb cl [h] l (qF l) 0 f=some f':=by
 intro l
 induction l with
 |nil=>intro f f' e;simpa [Jm,Le,qF]using e
 |cons o l ih=>
  intro f f' e;simp only[Jm]at e;obtain⟨w,hw,e⟩:=ad.1 e;simp only[qF,bh,Le,hw,aa];cases w with
  |true=>
   simp only[uc]at e ⊢;obtain⟨p,hp,e⟩:=ad.1 e
   split at e
   ·rename_i hsame;simp only[bw,aa,hp];rw[t6]
    ·exact ih e
    ·rw[cb];intro j hj;rw[dx]at hj;have:j=0:=by omega
     subst this;simp only[t8,bw,aa,io];exact⟨p.2,by rw[hp],by rw[hsame]⟩
   ·cases e
  |false=>
   simp only[ah,ud]at e ⊢;exact ih e
theorem eK(hm:P.follows .mixedOrders=true)(hT: ∀ao o,T ao o=true→El P tb ao o)(hAl: ∀t z o,T (.alloc t z) o=true→Ki P t z o)(hcl:Fh P tb fun g args h=>BD tb cl h g args){Q:Exit→Act→World→Prop}{l:List Bh}
  {ws:List (Option (Nat×Nat))} {rs:Array Oper} {id:Nat} (h:okD2 T nt rs l ws=true) {C:CG} {f:Fr} {a:Act} (I:Inv tb C) (F:BB C f a nt) {f':Fr} {hs:List A6} (hh:hs[0]? =some C.H)
  (e:Le tb cl hs l ws 0 f=some f') (k: ∀(D:CG) (a':Act),IV C D→Inv tb D→hs.getLast?=some D.H→BB D f' a' nt→Q .normal a' D.w):(Code.region id rs true).wp P Q a C.w:=by
 obtain⟨fr,vl,h0,h1,h2,h3⟩:=opsD_spec l ws 0 f f' e;obtain⟨X,ID⟩:=drawn I (w:={C.w with drawn:=C.w.drawn+1}) ⟨rfl,rfl,rfl⟩ rfl;subst h0;subst h1;refine wp_region_any hm ?_;refine Ab3 (vl:=vl) (C₀:=C) hT hAl hcl h (by omega) (fun i ao hi=> ?_) k rs.size _ ⟨C.φ,C.H,{C.w with drawn:=C.w.drawn+1},C.res⟩ (fr 0) a 0 [] ?_ (st2_zero hh) (fun _ hp=>absurd hp f8) X ID (F.ext X)
 ·have:=h3 i ao hi;simpa only[dc]using this
 ·exact dj List.count_le_length (by simp)
theorem keepL_get(Bn:List Nat)(f:Fr)(t:Nat):get (keepL Bn f) t=get f t∨get (keepL Bn f) t= .junk:=by
 induction Bn with
 |nil=>exact .inr rfl
 |cons u Bn ih=>
  simp only[keepL,bh,get]
  by_cases h:u=t
  ·subst h;left;rw[t6 rfl]
  ·rw[t7 h];exact ih
theorem BB.keep{C:CG}{f:Fr}{a:Act}(F:BB C f a nt)(Bn:List Nat):BB C (keepL Bn f) a nt:=by
 refine⟨fun t=> ?_,F.size,F.defers⟩;rcases keepL_get Bn f t with h|h
 ·rw[h];exact F.rep t
 ·rw[h];trivial
theorem memH: ∀(l:A6) (o:BU),o∈l→DW o≤C7 l:=by
 intro l
 induction l with
 |nil=>intro o h;cases h
 |cons x l ih=>
  intro o h;simp only[C7];rcases bm.1 h with e|h
  ·subst e;omega
  ·have:=ih o h;omega
structure Next(tb:CV)(C:CG)(nt:Nat)(f:Fr)(h:A6)(D:CG)(a:Act):Prop where
 ext:IV C D
 inv:Inv tb D
 heap:D.H=h
 fr:BB D f a nt
theorem AaO(hm:P.follows .mixedOrders=true)(hT: ∀ao o,T ao o=true→El P tb ao o)(hAl: ∀t z o,T (.alloc t z) o=true→Ki P t z o)(hcl:Fh P tb fun g args h=>BD tb cl h g args)(hg: ∀g cs,tb.gl g=some cs→Bv cs=0):
  ∀(ac:AC) (c:Code),VA T nt ac c=true→ ∀{C:CG} {f:Fr} {a:Act} {e:Ex} {f':Fr} {h':A6},Bp tb cl ac f C.H=some (e,f',h')→Inv tb C→BB C f a nt→
   ∀{Q:Exit→Act→World→Prop},(∀D a',Next tb C nt f' h' D a'→Q (exOf e) a' D.w)→c.wp P Q a C.w:=by
 intro ac
 induction ac with
 |skip=>
  intro c hok C f a e f' h' he I F Q k;simp only[Bp,ae,ch]at he;obtain⟨rfl,rfl,rfl⟩:=he;cases c<;>simp only[VA,ah]at hok
  ·exact wp_skip (k C a ⟨mj C,I,rfl,F⟩)
  ·exact wp_label (k C a ⟨mj C,I,rfl,F⟩)
 |ret=>
  intro c hok C f a e f' h' he I F Q k;cases c<;>simp only[VA,ah]at hok;simp only[Bp,ae,ch]at he;obtain⟨rfl,rfl,rfl⟩:=he;exact wp_ret (k C a ⟨mj C,I,rfl,F⟩)
 |exit id=>
  intro c hok C f a e f' h' he I F Q k;cases c<;>simp only[VA,ah,beq_iff_eq]at hok;subst hok;simp only[Bp,ae,ch]at he;obtain⟨rfl,rfl,rfl⟩:=he;exact wp_exit (k C a ⟨mj C,I,rfl,F⟩)
 |reg l=>
  intro c hok C f a e f' h' he I F Q k;cases c with
  |region id rs b=>
   cases b<;>simp only[VA,ah]at hok;simp only[Bp]at he;obtain⟨p,hp,he⟩:=aj.1 he;obtain⟨p1,p2⟩:=p;simp only[ch]at he;obtain⟨rfl,rfl,rfl⟩:=he;exact reg_sound hT hcl hok I F hp fun D a' X ID hH FD=>k D a' ⟨X,ID,hH,FD⟩
  |_=>simp[VA]at hok
 |regq l=>
  intro c hok C f a e f' h' he I F Q k;cases c with
  |region id rs b=>
   cases b<;>simp only[VA,ah]at hok;simp only[Bp]at he;obtain⟨p,hp,he⟩:=aj.1 he;simp only[ch]at he;obtain⟨rfl,rfl,rfl⟩:=he;refine eK hm hT hAl hcl hok I F rfl (qJ l hp) fun D a' X ID hH FD=>k D a' ⟨X,ID,?_,FD⟩;simpa using hH.symm
  |_=>simp[VA]at hok
 |regd l ws=>
  intro c hok C f a e f' h' he I F Q k;cases c with
  |region id rs b=>
   cases b<;>simp only[VA,ah]at hok;simp only[Bp]at he;obtain⟨hs,_,he⟩:=ad.1 he;obtain⟨f1,hd,he⟩:=ad.1 he;obtain⟨h1,hl,he⟩:=aj.1 he;simp only[ch]at he;obtain⟨rfl,rfl,rfl⟩:=he;refine eK hm hT hAl hcl hok I F rfl hd fun D a' X ID hH FD=>k D a' ⟨X,ID,?_,FD⟩;rw[hl]at hH;exact(be hH).symm
  |_=>simp[VA]at hok
 |seq x y ihx ihy=>
  intro c hok C f a e f' h' he I F Q k;cases c with
  |seq c d=>
   simp only[VA,af]at hok;simp only[Bp]at he;obtain⟨p,hp,he⟩:=ad.1 he;obtain⟨e1,f1,h1⟩:=p;refine wp_seq (ihx c hok.1 hp I F fun D a' N=> ?_);cases e1 with
   |normal=>
    obtain⟨X,ID,hH,FD⟩:=N;exact ihy d hok.2 (by rw[hH];exact he) ID FD fun D' a'' N'=>k D' a'' ⟨X.trans N'.ext,N'.inv,N'.heap,N'.fr⟩
   |exit id=>
    simp only[ae,ch]at he;obtain⟨rfl,rfl,rfl⟩:=he;exact k D a' N
   |ret=>
    simp only[ae,ch]at he;obtain⟨rfl,rfl,rfl⟩:=he;exact k D a' N
  |_=>simp[VA]at hok
 |cond x y z ihy ihz=>
  intro c hok C f a e f' h' he I F Q k;cases c with
  |cond v c d=>
   simp only[VA,af]at hok;have r:=Ba I F hok.1.1;simp only[Bp]at he
   split at he
   ·rename_i t ht;rw[ht]at r;cases t with
    |true=>exact wp_cond_true r (ihy c hok.1.2 (by simpa using he) I F k)
    |false=>exact wp_cond_false r (ihz d hok.2 (by simpa using he) I F k)
   ·cases he
  |_=>simp[VA]at hok
 |blk id x ih=>
  intro c hok C f a e f' h' he I F Q k;cases c with
  |block id' c=>
   simp only[VA,af,beq_iff_eq]at hok;obtain⟨rfl,hok⟩:=hok;simp only[Bp]at he;obtain⟨p,hp,he⟩:=aj.1 he;obtain⟨e1,f1,h1⟩:=p;refine wp_block (ih c hok hp I F fun D a' N=> ?_);cases e1 with
   |normal=>
    simp only[ch]at he;obtain⟨rfl,rfl,rfl⟩:=he;exact k D a' N
   |ret=>
    simp only[ch]at he;obtain⟨rfl,rfl,rfl⟩:=he;exact k D a' N
   |exit id'=>
    simp only at he;simp only[exOf,Exit.inBlock]
    by_cases hid:id'=id
    ·rw[t6 hid]at he ⊢;simp only[ch]at he;obtain⟨rfl,rfl,rfl⟩:=he;exact k D a' N
    ·rw[t7 hid]at he ⊢;simp only[ch]at he;obtain⟨rfl,rfl,rfl⟩:=he;exact k D a' N
  |_=>simp[VA]at hok
 |scope x ih=>
  intro c hok C f a e f' h' he I F Q k;cases c with
  |scope c=>
   simp only[VA]at hok;refine wp_scope_straight (ih c hok he I F fun D a' N=> ?_);have:=k D a' N;cases e<;>exact this
  |_=>simp[VA]at hok
 |stop=>
  intro c hok C f a e f' h' he I F Q k;simp[Bp]at he
 |keep Bn x ih=>
  intro c hok C f a e f' h' he I F Q k;simp only[VA]at hok;simp only[Bp]at he;obtain⟨p,hp,he⟩:=aj.1 he;obtain⟨e1,f1,h1⟩:=p;refine ih c hok hp I F fun D a' N=> ?_;cases e1 with
  |normal=>
   simp only[ch]at he;obtain⟨rfl,rfl,rfl⟩:=he;exact k D a' ⟨N.ext,N.inv,N.heap,N.fr.keep Bn⟩
  |exit id=>
   simp only[ch]at he;obtain⟨rfl,rfl,rfl⟩:=he;exact k D a' N
  |ret=>
   simp only[ch]at he;obtain⟨rfl,rfl,rfl⟩:=he;exact k D a' N
 |loop Bn x ih=>
  intro c hok C f a e f' h' he I F Q k;cases c with
  |loop c=>
   simp only[VA]at hok;simp only[Bp,lp]at he
   split at he
   ·rename_i hex;have key: ∀(n:Nat) {D:CG} {f:Fr} {a:Act},aT (MW Bn (Bp tb cl x)) n f D.H=some (e,f',h')→IV C D→Inv tb D→BB D f a nt→Code.rounds P c Q n a D.w:=by
     intro n
     induction n with
     |zero=>intro D f a h;simp[aT]at h
     |succ n ihn=>
      intro D f a h X ID FD;simp only[aT]at h;rw[rounds_succ];have rnd: ∀{e1 f1 h1},MW Bn (Bp tb cl x) f D.H=some (e1,f1,h1)→ ∃f2 h2,Bp tb cl x (keepL Bn f) D.H=some (e1,f2,h2)∧
        (e1= .normal→(f1,h1)=(keepL Bn f2,h2))∧(e1≠ .normal→f1=f2∧h1=h2):=by
       intro e1 f1 h1 hr;simp only[MW]at hr;obtain⟨⟨e2,f2,h2⟩,hp,hr⟩:=aj.1 hr;cases e2<;>simp only[ch]at hr
       ·obtain⟨he1,hq⟩:=hr;subst he1;exact⟨f2,h2,hp,fun _=>by rw[hq.1,hq.2],fun h=>absurd rfl h⟩
       all_goals obtain⟨rfl,rfl,rfl⟩:=hr
       ·exact⟨_,_,hp,fun h=>(by cases h),fun _=>⟨rfl,rfl⟩⟩
       ·exact⟨_,_,hp,fun h=>(by cases h),fun _=>⟨rfl,rfl⟩⟩
      cases hr:MW Bn (Bp tb cl x) f D.H with
      |none=>rw[hr]at h;simp at h
      |some p=>
       obtain⟨e1,f1,h1⟩:=p;rw[hr]at h;obtain⟨f2,h2,hx,hn,ho⟩:=rnd hr;refine ih c hok hx ID (FD.keep Bn) fun D' a' N=> ?_
       by_cases hnorm:e1= .normal
       ·subst hnorm;have hs:=hn rfl;simp only[]at h;simp only[exOf,Exit.then];obtain⟨X',ID',hH',FD'⟩:=N;simp only[ch]at hs;obtain⟨rfl,rfl⟩:=hs;exact ihn (D:=D') (f:=keepL Bn f2) (by rw[hH'];exact h) (X.trans X') ID' (FD'.keep Bn)
       ·obtain⟨rfl,rfl⟩:=ho hnorm;have h':some (e1,f1,h1)=some (e,f',h'):=by
         cases e1 with
         |normal=>exact absurd rfl hnorm
         |exit id=>simpa using h
         |ret=>simpa using h
        simp only[ae,ch]at h';obtain⟨rfl,rfl,rfl⟩:=h';have:=k D' a' ⟨X.trans N.ext,N.inv,N.heap,N.fr⟩;cases e1 with
        |normal=>exact absurd rfl hnorm
        |exit id=>exact this
        |ret=>exact this
    exact wp_loop_rounds _ (key _ he (mj C) I F)
   ·cases he
  |_=>simp[VA]at hok
end
end
section
def uE(P:Program):KZ→ResultVar→Bool
 | .tmp t, .tmp u=>t==u
 | .cell ag n a, .cell b t=>a==b&&ag==FJ P t&&n==P.cellsOf t&&(P.underlying t).isSome
 |_,_=>false
def Tk(P:Program):List KZ→List ResultVar→Bool
 |[],[]=>true
 |x::r,y::q=>uE P x y&&Tk P r q
 |_,_=>false
def okFn(T:GI→Oper→Bool)(P:Program)(fn:Cv)(g:Nat):Bool:=
 match P.funcs[g]? with
 |some F=>(match F.body with
  |some c=>VA T fn.nt fn.body c
  |none=>false)&& !(F.name== "runtime.NumGoroutine")&&fn.nt==F.ntmps&&decide (fn.np≤fn.nt)&&Tk P fn.res F.results.toList
 |none=>false
section
variable{T:GI→Oper→Bool}{P:Program}{tb:CV}{cl:Nat→List AV→A6→M2}{nt:Nat}
theorem eF{C:CG}(I:Inv tb C){t:TypeId}(hu:(P.underlying t).isSome=true){x:AV}{y:Value}(hr:Gk C x y){v:AV}(h:load C.H (FJ P t) (P.cellsOf t) x=some v):
  ∃(p:Addr) (z:Value),y= .pointer (some p)∧(loadVar t p).run P C.w= .ok z C.w∧Gk C v z:=by
 simp only[load]at h;cases hp:place C.H x with
 |none=>rw[hp]at h;simp at h
 |some q=>
  obtain⟨cs,off⟩:=q;rw[hp]at h;simp only[aa]at h
  split at h
  ·rename_i hle;obtain⟨b,base,vs,e,hh,hl,hs⟩:=mT I hr hp;have hsub:=hh.sub off (P.cellsOf t);have hrl:Br C (sub cs off (P.cellsOf t)) ((vs.drop off).take (P.cellsOf t)):=hl.drop.take;have hlen:((vs.drop off).take (P.cellsOf t)).length=P.cellsOf t:=by
    rw[hrl.length];simp only[sub,aq,bk];omega
   obtain⟨q1,q2⟩:=Ze h (Sa hs off _) hrl;have hinfo:(P.info? t).isSome=true:=by
    obtain⟨d,hd⟩:=bn.1 hu;exact info_of_underlying hd
   have hlc:=In (P:=P) hsub;rw[hlen]at hlc;cases hag:FJ P t with
   |true=>
    refine⟨_, .agg ((vs.drop off).take (P.cellsOf t)).toArray,e,?_,q1 hag⟩;simp only[loadVar,Sem.run_bind,Sem.run_pure,Result.andThen_ok,FN t C.w hu,hag,uc,Cg hinfo,hlc]
   |false=>
    obtain⟨z,hz,rz⟩:=q2 hag;have hc:C.w.cell? ⟨b,base+off,none⟩=some z:=by
     have:=hsub 0 z (by rw[hz];rfl);simpa using this
    refine⟨_,z,e,?_,rz⟩;simp only[loadVar,Sem.run_bind,Result.andThen_ok,FN t C.w hu,hag,ah,ud,run_load,hc]
  ·cases h
theorem tW{C:CG}(I:Inv tb C){f:Fr}{a:Act}(F:BB C f a nt): ∀(l:List KZ) (rs:List ResultVar),Tk P l rs=true→ ∀{vs:List AV},results f C.H l=some vs→
  ∃xs:List Value,(rs.mapM (m:=Sem) fun
   | .tmp t=>pure (a.tmps.getD t undef)
   | .cell b t=>do loadVar t (←asAddr (a.tmps.getD b undef))).run P C.w= .ok xs C.w∧Br C vs xs:=by
 intro l
 induction l with
 |nil=>
  intro rs h vs e;cases rs with
  |cons r rs=>simp[Tk]at h
  |nil=>
   simp only[results,ae]at e;subst e;exact⟨[],by simp,rfl⟩
 |cons x l ih=>
  intro rs h vs e;cases rs with
  |nil=>simp[Tk]at h
  |cons r rs=>
   simp only[Tk,af]at h;obtain⟨h1,h2⟩:=h;cases x with
   |tmp t=>
    cases r with
    |cell b t=>simp[uE]at h1
    |tmp u=>
     simp only[uE,beq_iff_eq]at h1;subst h1;simp only[results]at e;obtain⟨vs',hv,rfl⟩:=aj.1 e;obtain⟨xs,q1,q2⟩:=ih rs h2 hv;refine⟨a.tmps.getD t undef::xs,?_,⟨_,_,rfl,F.rep t,q2⟩⟩;simp only[qp,Sem.run_bind,Sem.run_pure,Result.andThen_ok,q1]
   |cell ag n t=>
    cases r with
    |tmp u=>simp[uE]at h1
    |cell b ty=>
     simp only[uE,af,beq_iff_eq]at h1;obtain⟨⟨⟨rfl,rfl⟩,rfl⟩,hu⟩:=h1;simp only[results]at e;obtain⟨v,hv,e⟩:=ad.1 e;obtain⟨vs',hv',rfl⟩:=aj.1 e;obtain⟨xs,q1,q2⟩:=ih rs h2 hv';obtain⟨p,z,hp,hz,rz⟩:=eF I hu (F.rep t) hv;refine⟨z::xs,?_,⟨_,_,rfl,rz,q2⟩⟩;have ha:(asAddr (a.tmps.getD t undef)).run P C.w= .ok p C.w:=by rw[hp];rfl
     simp only[qp,Sem.run_bind,Sem.run_pure,Result.andThen_ok,ha,hz,q1]
def uA:List Value→Value
 |[x]=>x
 |xs=> .tuple xs.toArray
theorem Ro{C:CG}: ∀{vs:List AV} {xs:List Value},Br C vs xs→Gk C (Gg vs) (uA xs)
 |[],xs,h=>by rw[show xs=[]from h];exact⟨[],rfl,rfl⟩
 |[v],xs,⟨x,q,e,h1,h2⟩=>by rw[e,show q=[]from h2];exact h1
 |v::u::vs,xs,⟨x,q,e,h1,⟨y,q',e',h2,h3⟩⟩=>by
  rw[e,e'];exact⟨x::y::q',rfl,x,_,rfl,h1,y,_,rfl,h2,h3⟩
theorem tN{fn:Func}{C:CG}(I:Inv tb C){f:Fr}{a:Act}(F:BB C f a nt){l:List KZ}(h:Tk P l fn.results.toList=true){vs:List AV}(e:results f C.H l=some vs):
  ∃xs,(rm fn a.tmps).run P C.w= .ok (uA xs) C.w∧Br C vs xs:=by
 obtain⟨xs,h1,h2⟩:=tW I F l _ h e;refine⟨xs,?_,h2⟩;have hrun:(rm fn a.tmps).run P C.w= .ok (if h:xs.toArray.size=1 then xs.toArray[0]else .tuple xs.toArray) C.w:=by
  unfold rm;rw[Array.mapM_eq_mapM_toList,Sem.run_bind,Sem.run_map];exact ue (fun r=>(Result.andThen (Result.andThen r fun a w'=> .ok a.toArray w') fun a w'=>sb P (pure (if h:a.size=1 then a[0]else Value.tuple a)) w')) h1
 rw[hrun]
 match xs with
 |[]=>rfl
 |[x]=>rfl
 |x::y::xs=>simp[uA]
end
end
section
section
variable{T:GI→Oper→Bool}{P:Program}{tb:CV}{cl:Nat→List AV→A6→M2}{nt:Nat}
theorem Z4{D:CG}(I:Inv tb D){n id:Nat}(hid:id<D.H.length)(h: ¬id<n): ¬(D.cut n).own (D.φ id).blk:=by
 rintro(⟨j,hj,e⟩|hr)
 ·simp only[sj,aq]at hj;have:=I.inj j id (by omega) hid e;omega
 ·exact(I.rs _ hr).2 id hid rfl
theorem vJ{D:CG}{n:Nat}{v:AV}{x:Value}(h:ment v≤n)(r:Gk D v x):Gk (D.cut n) v x∧(scal v=true→scal v=true):=⟨r.cut h,fun h=>h⟩
def FrzOk(D:CG)(n:Nat)(F:AV→Option AV):Prop:= ∀(v v':AV) (x:Value),F v=some v'→Gk D v x→Gk (D.cut n) v' x∧(scal v=true→scal v'=true)
theorem NA{D:CG}{n:Nat}{F:AV→Option AV}(hF:FrzOk D n F): ∀{l l':List AV} {xs:List Value},DU F l=some l'→Br D l xs→Br (D.cut n) l' xs∧(l.all scal=true→l'.all scal=true)∧l'.length=l.length
 |[],_,_,h,r=>by
  simp only[DU,ae]at h;subst h;exact⟨r,fun h=>h,rfl⟩
 |v::l,_,_,h,⟨x,q,e,r,rr⟩=>by
  simp only[DU]at h;obtain⟨v',hv,h⟩:=ad.1 h;obtain⟨l',hl,rfl⟩:=aj.1 h;obtain⟨h1,h2⟩:=hF _ _ _ hv r;obtain⟨h3,h4,h5⟩:=NA hF hl rr;refine⟨⟨x,q,e,h1,h3⟩,fun hs=> ?_,by simp[h5]⟩;simp only[fy,af]at hs ⊢;exact⟨h2 hs.1,h4 hs.2⟩
theorem Rw{D:CG}{n sz:Nat}{F:AV→Option AV}(hF:FrzOk D n F): ∀{l l':List (List AV)} {xs:List (List Value)},DU (DU F) l=some l'→Bl D l xs→(∀e∈l,e.length=sz∧e.all scal=true)→
  Bl (D.cut n) l' xs∧(∀e∈l',e.length=sz∧e.all scal=true)∧l'.length=l.length
 |[],_,_,h,r,_=>by
  simp only[DU,ae]at h;subst h;exact⟨r,fun e h=>(by cases h),rfl⟩
 |v::l,_,_,h,⟨x,q,e,r,rr⟩,hs=>by
  simp only[DU]at h;obtain⟨v',hv,h⟩:=ad.1 h;obtain⟨l',hl,rfl⟩:=aj.1 h;obtain⟨h1,h2,h6⟩:=NA hF hv r;obtain⟨h3,h4,h5⟩:=Rw hF hl rr fun e he=>hs e (a8 _ he);refine⟨⟨x,q,e,h1,h3⟩,fun e he=> ?_,by simp[h5]⟩;have h0:=hs v bg;rcases bm.1 he with rfl|he
  ·exact⟨h6.trans h0.1,h2 h0.2⟩
  ·exact h4 e he
theorem rA{D:CG}(I:Inv tb D){n:Nat}: ∀d,FrzOk D n (frz D.H n d)
 |0=>fun v v' x h r=>by
  simp only[frz]at h
  split at h
  ·rename_i hm;obtain rfl:=be h;exact vJ hm r
  ·cases h
 |d+1=>fun v v' x h r=>by
  simp only[frz]at h
  split at h
  ·rename_i hm;obtain rfl:=be h;exact vJ hm r
  ·rename_i hm;have ih:=rA I (n:=n) d
   split at h
   ·rename_i id k lo len;have hid: ¬id<n:=by simp only[ment]at hm;omega
    obtain⟨_,fz,sz,els,hg,hle,q⟩:=r;simp only[hg,aa]at h
    split at h
    ·rename_i hc;obtain⟨hk,hlo⟩:=hc;obtain⟨els',he,rfl⟩:=aj.1 h;refine⟨?_,fun _=>rfl⟩;obtain⟨_,off,cap,rfl,hlc,hoff,_,_⟩:=q hk;obtain⟨tl,hg',hlab⟩:=Ks hg;obtain⟨vss,arr,et,fr,⟨h1,_⟩,h2,h3,h4,h5,h6,h7,h8,h9⟩:=I.obj id _ hg';have hlens:=j8 (fun x hx=>(h4 x hx).1) h5;have hlen:((els.drop lo).take len).length=len:=by simp only[aq,bk];omega
     obtain⟨q1,q2,q3⟩:=Rw (sz:=sz) ih he (h5.drop.take) fun e he=>h4 e (cz (co he));refine .inl ⟨(D.φ id).blk,off,cap,(vss.drop lo).take len,by rw[q3,hlen],by rw[q3,hlen];exact hlc,I.lt id (Bg hg'),Z4 I (Bg hg') hid,?_,q2,q1⟩;intro j v hj;have hpos:0<len:=by
      rcases ez len with h|h
      ·subst h;simp at hj
      ·exact h
     rw[hoff hpos];have hh:=h7.sub (lo*sz) (len*sz);refine hh j v ?_;rw[F5 (sz:=sz) _ _ (fun x hx=>hlens x (cz hx)),Gz (sz:=sz) _ _ hlens]at hj;exact hj
    ·cases h
   ·rename_i sz id off len;have hid: ¬id<n:=by simp only[ment]at hm;omega
    obtain⟨_,o,cap,rfl,hlc,hoff,hsz⟩:=r;obtain⟨cs,hc,h⟩:=ad.1 h
    split at h
    ·rename_i hcond;obtain⟨els',he,rfl⟩:=aj.1 h;refine⟨?_,fun _=>rfl⟩;obtain⟨tl,hg,hlab⟩:=QM hc;obtain⟨vs,arr,et,fr,⟨h1,_⟩,h2,h3,h4,h5,h6⟩:=I.obj id _ hg;obtain⟨c1,c2,vss,c3,c4⟩:=ZN (C:=D) sz len (cs.drop off) (vs.drop off) D.w (D.φ id).blk off (by
      simp only[cb]at h3 ⊢;exact fun x hx=>h3 x (cz hx)) h4.drop (by
      have:=h5.sub off (vs.drop off).length;rw[dc]at this
      rwa [au (bc _)]at this) (by simp only[bk];omega)
     obtain⟨q1,q2,q3⟩:=Rw (sz:=sz) ih he c4 c2;refine .inl ⟨(D.φ id).blk,o,cap,vss,by rw[q3,c1],by rw[q3,c1];exact hlc,I.lt id (Bg hg),Z4 I (Bg hg) hid,?_,q2,q1⟩;intro j v hj;have hpos:0<len:=by
      rcases ez len with h|h
      ·subst h;simp only[BV]at c4;rw[show vss=[]from c4]at hj;simp at hj
      ·exact h
     rw[hoff hpos];exact c3 j v hj
    ·cases h
   ·rename_i sz els;obtain⟨els',he,rfl⟩:=aj.1 h;refine⟨?_,fun _=>rfl⟩;rcases r with ⟨b,base,cap,vss,rfl,hlc,hlt,hown,hh,hs,hr⟩|⟨rfl,p,cap,rfl⟩
    ·obtain⟨q1,q2,q3⟩:=Rw (sz:=sz) ih he hr hs;exact .inl ⟨b,base,cap,vss,by rw[q3],by rw[q3];exact hlc,hlt,Uu hown,hh,q2,q1⟩
    ·simp only[DU,ae]at he;subst he;exact .inr ⟨rfl,p,cap,rfl⟩
   ·rename_i cs;obtain⟨vs,e,s,q⟩:=r;obtain⟨cs',hc,rfl⟩:=aj.1 h;obtain⟨h1,h2,_⟩:=NA ih hc q;exact⟨⟨vs,e,h2 s,h1⟩,fun h=>by simp[scal]at h⟩
   ·rename_i cs;obtain⟨vs,e,q⟩:=r;obtain⟨cs',hc,rfl⟩:=aj.1 h;exact⟨⟨vs,e,(NA ih hc q).1⟩,fun h=>by simp[scal]at h⟩
   ·cases h
theorem frzL_rep{D:CG}(I:Inv tb D){n:Nat}{l l':List AV}{xs:List Value}(h:rB D.H n l=some l')(r:Br D l xs):Br (D.cut n) l' xs∧(l.all scal=true→l'.all scal=true):=
 ⟨(NA (rA I 12) h r).1,(NA (rA I 12) h r).2.1⟩
theorem uU{C D:CG}(X:IV C D)(I:Inv tb D)(hg: ∀g cs,tb.gl g=some cs→Bv cs=0){vs:List AV}{xs:List Value}(h:Br D vs xs):
  ∃D':CG,IV C D'∧Inv tb D'∧D'.w=D.w∧D'.H=(Z9 C.H.length D.H vs).2.getD C.H∧Gk D' (Z9 C.H.length D.H vs).1 (uA xs):=by
 unfold Z9
 split
 ·rename_i vs' hf
  split
  ·rename_i hm;exact⟨D.cut C.H.length,X.cut (bc _),I.cut hm hg,rfl,rfl,Ro (frzL_rep I hf h).1⟩
  ·exact⟨D,X,I,rfl,rfl,Ro h⟩
 ·exact⟨D,X,I,rfl,rfl,Ro h⟩
theorem yV{C D:CG}(X:IV C D)(I:Inv tb D)(hg: ∀g cs,tb.gl g=some cs→Bv cs=0){warm:Bool}{vs:List AV}{xs:List Value}(h:Br D vs xs):
  ∃D':CG,IV C D'∧Inv tb D'∧D'.w=D.w∧D'.H=(Yx warm C.H.length D.H vs).2.getD C.H∧Gk D' (Yx warm C.H.length D.H vs).1 (uA xs):=by
 cases warm
 ·exact uU X I hg h
 ·exact⟨D,X,I,rfl,rfl,Ro h⟩
theorem vI: ∀(l:List AV) (k t:Nat),get ((l.zipIdx k).map fun p=>(p.2,p.1)) t=if k≤t then l[t-k]?.getD .junk else .junk
 |[],k,t=>by simp[get]
 |v::l,k,t=>by
  simp only[kn,bh,get];rw[vI l (k+1) t]
  by_cases h:k=t
  ·subst h;simp
  ·rw[t7 h]
   by_cases h1:k≤t
   ·rw[t6 (show k+1≤t by omega),t6 h1,show t-k=(t-(k+1))+1 by omega];simp
   ·rw[t7 (by omega),t7 h1]
theorem fr_args{C:CG}{args:List AV}{vs:List Value}(h:Br C args vs){m:Nat}(hm:args.length≤m):
  BB C (args.zipIdx.map fun p=>(p.2,p.1)) {tmps:=vs.toArray++qd (m-vs.toArray.size) undef,defers:=[]} m:=by
 have hl:=h.length;refine⟨fun t=> ?_,by simp;omega,rfl⟩;rw[vI,t6 (dz _),ny];cases ht:args[t]? with
 |none=>trivial
 |some v=>
  obtain⟨x,hx,r⟩:=h.get ht;have:t<vs.length:=Bg hx;simp only[io,cv];rw[lr (by simpa using this)];simpa [hx]using r
theorem nD{fn:Cv}{g:Nat}(h:okFn T P fn g=true): ∃(F:Func) (c:Code),P.funcs[g]? =some F∧F.body=some c∧VA T fn.nt fn.body c=true∧(F.name== "runtime.NumGoroutine")=false∧fn.nt=F.ntmps∧fn.np≤fn.nt∧
  Tk P fn.res F.results.toList=true:=by
 unfold okFn at h
 split at h
 ·rename_i F hF;simp only[af,ck,beq_iff_eq,t8]at h;obtain⟨⟨⟨⟨h1,h2⟩,h3⟩,h4⟩,h5⟩:=h
  split at h1
  ·rename_i c hc;exact⟨F,c,hF,hc,h1,h2,h3,h4,h5⟩
  ·cases h1
 ·cases h
theorem iT(hm:P.follows .mixedOrders=true)(hT: ∀ao o,T ao o=true→El P tb ao o)(hAl: ∀t z o,T (.alloc t z) o=true→Ki P t z o)(hcl:Fh P tb fun g args h=>BD tb cl h g args)(hg: ∀g cs,tb.gl g=some cs→Bv cs=0)
  {fn:Cv} {g:Nat} (hok:okFn T P fn g=true) {C:CG} {args:List AV} {vs:List Value} {r:AV×Option A6} (I:Inv tb C) (hr:Br C args vs) (h:body tb cl fn args C.H=some r):
  Calls P g vs.toArray C.w (After tb C r):=by
 obtain⟨F,c,hF,hc,h1,h2,h3,h4,h5⟩:=nD hok;simp only[body]at h
 split at h
 ·rename_i hnp;obtain⟨⟨e,f,h'⟩,he,h⟩:=ad.1 h;refine calls_of_wp hF hc ?_;rw[←h3];refine AaO hm hT hAl hcl hg fn.body c h1 he I (fr_args hr (by omega)) fun D a' N=> ?_;obtain⟨X,ID,hH,FD⟩:=N;have fin: ∀us,results f h' fn.res=some us→Yx fn.warm C.H.length h' us=r→ ∃v,(rm F a'.tmps).run P D.w= .ok v D.w∧After tb C r (.returned v) D.w:=by
   intro us hus hl;rw[←hH]at hus hl;obtain⟨xs,hx,rx⟩:=tN ID FD h5 hus;obtain⟨D',X',I',hw,hH',r'⟩:=yV (warm:=fn.warm) X ID hg rx;rw[hl]at hH' r';exact⟨_,hx,_,D',rfl,X',I',hw,hH',r'⟩
  cases e with
  |exit id=>simp at h
  |normal=>
   obtain⟨us,hus,hl⟩:=aj.1 h;exact⟨FD.defers,fin us hus hl⟩
  |ret=>
   obtain⟨us,hus,hl⟩:=aj.1 h;exact⟨FD.defers,fin us hus hl⟩
 ·cases h
structure Fits(T:GI→Oper→Bool)(P:Program)(tb:CV):Prop where
 mixed:P.follows .mixedOrders=true
 ops: ∀ao o,T ao o=true→El P tb ao o
 al: ∀t z o,T (.alloc t z) o=true→Ki P t z o
 prims:PrimsOk P tb
 gl: ∀g cs,tb.gl g=some cs→Bv cs=0
 fns: ∀g fn,tb.fns g=some fn→okFn T P fn g=true
theorem wP{fn:Cv}{g:Nat}(hok:okFn T P fn g=true)(vs:Array Value)(w:World):(callFunc g vs).run P w= .ok (.enter g vs) w:=by
 obtain⟨F,c,hF,hc,_,h2,_⟩:=nD hok;have h2': ¬F.name= "runtime.NumGoroutine" :=by simpa using h2
 simp[callFunc,hF,hc,h2']
theorem mJ(ft:Fits T P tb): ∀n,Fh P tb (run tb n)
 |0=>fun g C args vs r I hr h=>by simp[run]at h
 |n+1=>fun g C args vs r I hr h=>by
  simp only[run]at h;obtain⟨fn,hfn,h⟩:=ad.1 h;have hok:=ft.fns g fn hfn;exact .inr ⟨g,vs.toArray,wP hok _ _,iT ft.mixed ft.ops ft.al (S6 ft.prims (mJ ft n)) ft.gl hok I hr h⟩
theorem den_calls(ft:Fits T P tb){g:Nat}{C:CG}{args:List AV}{vs:List Value}{r:AV×Option A6}(I:Inv tb C)(hr:Br C args vs)(h:C3 tb g args C.H=some r):Calls P g vs.toArray C.w (After tb C r):=by
 unfold C3 at h
 split at h
 ·generalize fk _=n at h;cases n with
  |zero=>simp[run]at h
  |succ n=>
   simp only[run]at h;obtain⟨fn,hfn,h⟩:=ad.1 h;exact iT ft.mixed ft.ops ft.al (S6 ft.prims (mJ ft n)) ft.gl (ft.fns g fn hfn) I hr h
 ·cases h
end
end
section
def hQ(P:Program)(g:Nat):Option (Array Value→Sem Value):=
 match P.funcs[g]? with
 |some fn=>if !(fn.name== "runtime.NumGoroutine")&&fn.body.isNone&&(Extern.findNext fn).isNone then Extern.find fn else none
 |none=>none
def TR(h:A6):AV→Option (List UInt8)
 | .s l=>some l
 |v=>(EX h 1 v).bind F7
def Tj:List AV→A6→Option (AV×Option A6)
 |[x,y],h=>(TR h x).bind fun a=>(TR h y).map fun b=>(.i .i64 (jk ⟨a.toArray⟩ ⟨b.toArray⟩),none)
 |_,_=>none
section
variable{P:Program}{tb:CV}{C:CG}
theorem qB{g:Nat}{e:Array Value→Sem Value}(he:hQ P g=some e){vs:Array Value}{v:Value}{w:World}(h:(e vs).run P w= .ok v w):(callFunc g vs).run P w= .ok (.value v) w:=by
 unfold hQ at he
 split at he
 ·rename_i fn hf
  split at he
  ·rename_i hc;simp only[af,ck,Option.isNone_iff_eq_none]at hc;obtain⟨⟨h1,h2⟩,h3⟩:=hc;have h2':fn.body.isNone=true:=by rw[h2];rfl
   simp only[callFunc,Sem.run_bind,run_program,Result.andThen_ok,hf,h1,ah,ud,h2',uc,run_mark,h3,he,h,Sem.run_pure]
  ·cases he
 ·cases he
theorem bytes_one{e:List AV}{r:List (List AV)}{l:List UInt8}(h:F7 (e::r)=some l): ∃n q,e=[.i .u8 n]∧F7 r=some q∧l=bb n.toNat::q:=by
 unfold F7 at h
 split at h
 ·rename_i he;cases he
 ·rename_i n r' he;cases he;obtain⟨q,hq,rfl⟩:=aj.1 h;exact⟨n,q,rfl,hq,rfl⟩
 ·cases h
theorem run_lb(w:World)(b:Nat): ∀(els:List (List AV)) (vss:List (List Value)) (l:List UInt8) (o:Nat) (acc:ByteArray),Bl C els vss→F7 els=some l→E1 w b o vss.flatten→
  (mz ⟨b,o,none⟩ els.length acc).run P w= .ok ⟨acc.data++l.toArray⟩ w
 |[],_,l,o,acc,_,h,_=>by
  simp only[F7,ae]at h;subst h;simp[mz]
 |e::els,vss,l,o,acc,⟨v,q,e1,r1,r2⟩,h,hh=>by
  subst e1;obtain⟨n,l',rfl,hl,rfl⟩:=bytes_one h;obtain⟨u,us,e2,ru,e3⟩:=r1;have e3':us=[]:=e3;have ru':u= .int .u8 n:=ru;subst e3';subst e2;subst ru';have h0:w.cell? ⟨b,o,none⟩=some (.int .u8 n):=by
   have:=hh 0 (.int .u8 n) (by simp);simpa using this
  have hn:(⟨b,o,none⟩:Addr).add 1=⟨b,o+1,none⟩:=rfl;have ih:=run_lb w b els q l' (o+1) (acc.push n.toNat.toUInt8) r2 hl (fun j v hj=>by
   have:=hh (j+1) v (by simpa using hj);rw[show o+1+j=o+(j+1) by omega];exact this)
  simp only[ba,mz,Sem.run_bind,run_load,h0,Result.andThen_ok,hn,ih];congr 1;apply mh;simp[qq,Nat.toUInt8]
theorem Yt(I:Inv tb C){x:AV}{v:Value}{l:List UInt8}(r:Gk C x v)(h:TR C.H x=some l):(gk v).run P C.w= .ok ⟨l.toArray⟩ C.w:=by
 have slc:(EX C.H 1 x).bind F7=some l→(gk v).run P C.w= .ok ⟨l.toArray⟩ C.w:=by
  intro h;obtain⟨els,he,hl⟩:=ad.1 h;rcases rT I (by omega) r he with ⟨rfl,e⟩|⟨q,cap,vss,e,hlc,hh,hs,hr⟩
  ·subst e;simp only[F7,ae]at hl;subst hl
   rfl
  ·subst e
   by_cases hne:els=[]
   ·subst hne;simp only[F7,ae]at hl;subst hl
    rfl
   ·obtain⟨b,base,rfl,hh2⟩:=hh hne;have:=run_lb (P:=P) (C:=C) C.w b els vss l base .empty hr hl hh2;simp only[gk,this];congr 1;apply mh;show(#[]:Array UInt8)++l.toArray=l.toArray;simp
 cases x<;>simp only[TR]at h<;>try exact slc h
 obtain rfl:=be h;have e:v= .string ⟨_⟩:=r;subst e
 rfl
theorem qG{g:Nat}(he:hQ P g=some nq):Fh P tb fun g' args h=>if g'=g then Tj args h else none:=by
 intro g' D args vs r I hr h;dsimp only at h
 split at h
 ·rename_i hg;subst hg;unfold Tj at h
  split at h
  ·rename_i x y h';obtain⟨v,vs',e1,r1,v2,vs2,e2,r2,e3⟩:=hr;have e3':vs2=[]:=e3;subst e3';subst e2;subst e1;obtain⟨a,ha,h⟩:=ad.1 h;obtain⟨b,hb,rfl⟩:=aj.1 h;refine .inl (AB I (v:= .int .i64 (jk ⟨a.toArray⟩ ⟨b.toArray⟩)) (qB he ?_) rfl);change sb P (do pure (goInt (jk (←gk v) (←gk v2)))) D.w=_;simp only[Sem.run_bind,Yt I r1 ha,Yt I r2 hb,Result.andThen_ok,Sem.run_pure,goInt]
  ·cases h
 ·cases h
end
end
section
def MZ(l:List UInt8)(c:UInt8):Int:=match l.findIdx? (fun x=>x==c)with
 |some i=>(i:Int)
 |none=> -1
def AaR(l:List UInt8)(c:UInt8):Int:=(l.countP (fun x=>x==c):Int)
def byteA:AV→Option UInt8
 | .i .u8 n=>some (bb n.toNat)
 |_=>none
def mX(f:List UInt8→UInt8→Int):List AV→A6→Option (AV×Option A6)
 |[x,y],h=>(byteA y).bind fun c=>(TR h x).map fun a=>(.i .i64 (f a c),none)
 |_,_=>none
def eX:List AV→A6→Option (AV×Option A6):=mX MZ
def pCount:List AV→A6→Option (AV×Option A6):=mX AaR
theorem find_range{l:List UInt8}{c:UInt8}:((lz l.length).find? fun i=>l.toArray[i]! ==c)=l.findIdx? (fun x=>x==c):=by
 have key: ∀(m:List UInt8) (k:Nat),k+m.length=l.length→(∀i,m[i]? =l[k+i]?)→((dp k m.length).find? fun i=>l.toArray[i]! ==c)=(m.findIdx? (fun x=>x==c)).map (k+ ·):=by
  intro m
  induction m with
  |nil=>intro k _ _;rfl
  |cons x m ih=>
   intro k hk he;have h0:l.toArray[k]! =x:=by
    have:=he 0;simp only[bw,i6]at this;simp[←this]
   rw[ba,nh,qe,h0,j5];cases hx:x==c with
   |true=>simp
   |false=>
    simp only[ah,ud];rw[ih (k+1) (by simp at hk;omega) (fun i=>by have:=he (i+1);simp only[di]at this;rw[this];congr 1;omega)];cases m.findIdx? (fun x=>x==c)with
    |none=>rfl
    |some i=>simp;omega
 have:=key l 0 (by simp) (fun i=>by simp);rw[nn,this];cases l.findIdx? (fun x=>x==c)<;>simp
theorem run_find{l:List UInt8}{c:UInt8}:(match(lz (⟨l.toArray⟩:ByteArray).size).find? fun i=>(⟨l.toArray⟩:ByteArray)[i]! ==c with
  |some i=>goInt i
  |none=>goInt (-1))= .int .i64 (MZ l c):=by
 have h:(lz (⟨l.toArray⟩:ByteArray).size).find? (fun i=>(⟨l.toArray⟩:ByteArray)[i]! ==c)=l.findIdx? (fun x=>x==c):=by
  rw[←find_range];congr 1;funext i;congr 1
  by_cases hi:i<l.length
  ·rw[getElem!_pos _ _ (by simpa [lw]using hi),getElem!_pos _ _ (by simpa using hi)];rfl
  ·rw[getElem!_neg _ _ (by simpa [lw]using hi),getElem!_neg _ _ (by simpa using hi)]
 rw[h];unfold MZ;cases l.findIdx? (fun x=>x==c)<;>rfl
theorem run_count{l:List UInt8}{c:UInt8}:(⟨l.toArray⟩:ByteArray).foldl (fun(n:Int) x=>if x==c then n+1 else n) ((0:Nat):Int)=(l.countP (fun x=>x==c):Int):=by
 rw[Lib.foldl_data];have: ∀(l:List UInt8) (k:Int),l.foldl (fun n x=>if x==c then n+1 else n) k=k+(l.countP (fun x=>x==c):Int):=by
  intro l
  induction l with
  |nil=>intro k;simp
  |cons x l ih=>
   intro k;rw[nv,ih,List.countP_cons]
   split<;>simp<;>omega
 rw[this];simp
section
variable{P:Program}{tb:CV}
theorem mP{g:Nat}{f:List UInt8→UInt8→Int}{e:Array Value→Sem Value}(he:hQ P g=some e)
  (hf: ∀(v:Value) (n:Int) (l:List UInt8) (w:World),(gk v).run P w= .ok ⟨l.toArray⟩ w→(e #[v, .int .u8 n]).run P w= .ok (.int .i64 (f l (bb n.toNat))) w):Fh P tb fun g' args h=>if g'=g then mX f args h else none:=by
 intro g' D args vs r I hr h;dsimp only at h
 split at h
 ·rename_i hg;subst hg;unfold mX at h
  split at h
  ·rename_i hh x y;obtain⟨v,vs',e1,r1,v2,vs2,e2,r2,e3⟩:=hr;have e3':vs2=[]:=e3;subst e3';subst e2;subst e1;obtain⟨c,hc,h⟩:=ad.1 h;obtain⟨a,ha,rfl⟩:=aj.1 h;unfold byteA at hc;cases y with
   |i k n=>
    have r2':v2= .int k n:=r2;subst r2';cases k<;>simp only[reduceCtorEq,ae]at hc;subst hc;exact .inl (AB I (v:= .int .i64 (f a (bb n.toNat))) (qB he (hf v n a D.w (Yt (P:=P) I r1 ha))) rfl)
   |_=>cases hc
  ·cases h
 ·cases h
theorem eP{g:Nat}(he:hQ P g=some mr):Fh P tb fun g' args h=>if g'=g then eX args h else none:=
 mP he fun v n l w h=>by
  change sb P (do
   let b←gk v
   let c←mg (.int .u8 n)
   match(lz b.size).find? fun i=>b[i]! ==c with
   |some i=>pure (goInt i)
   |none=>pure (goInt (-1))) w=_
  simp only[Sem.run_bind,h,Result.andThen_ok,mg,Sem.run_pure];have:=run_find (l:=l) (c:=bb n.toNat);have hc:n.toNat.toUInt8=bb n.toNat:=rfl;rw[hc]
  split<;>rename_i hx<;>rw[hx]at this<;>simp only[]at this<;>rw[←this]<;>rfl
theorem yY{g:Nat}(he:hQ P g=some ot):Fh P tb fun g' args h=>if g'=g then pCount args h else none:=
 mP he fun v n l w h=>by
  change sb P (do
   let b←gk v
   let c←mg (.int .u8 n)
   pure (goInt (b.foldl (fun(n:Int) x=>if x==c then n+1 else n) ((0:Nat):Int)))) w=_
  simp only[Sem.run_bind,h,Result.andThen_ok,mg,Sem.run_pure];have hc:n.toNat.toUInt8=bb n.toNat:=rfl;rw[hc,run_count];rfl
end
def Si:List AV→A6→Option (AV×Option A6)
 |[x],_=>some (x,none)
 |_,_=>none
theorem prim_same{P:Program}{tb:CV}{g:Nat}(he:hQ P g=some o8):Fh P tb fun g' args h=>if g'=g then Si args h else none:=by
 intro g' D args vs r I hr h;dsimp only at h
 split at h
 ·rename_i hg;subst hg;unfold Si at h
  split at h
  ·cases h;obtain⟨v,vs',e1,r1,e3⟩:=hr;have e3':vs'=[]:=e3;subst e3';subst e1;exact .inl (AB I (v:=v) (qB he rfl) r1)
  ·cases h
 ·cases h
end
section
section
variable{tb:CV}{Γ:Cx}{a b:AO}
inductive sN(tb:CV)(Γ:Cx):(As:List T)→List AO→BG As→Prop where
 |nil:sN tb Γ [] [] ()
 |one {a:AO} {t:T} {x:t.α} (h:C4 tb Γ a (.val t x)):sN tb Γ [t] [a] x
 |cons {a:AO} {t u:T} {x:t.α} {As:List T} {l:List AO} {y:BG (u::As)} (h:C4 tb Γ a (.val t x)) (k:sN tb Γ (u::As) l y):sN tb Γ (t::u::As) (a::l) (x,y)
theorem sN.spec{E:QS}{rv:Nat→AV}{fp:Fp}{f:Fr}{H:A6}(R:B5 E Γ rv fp f H): ∀{As:List T} {l:List AO} {x:BG As},sN tb Γ As l x→Vl (Pf E Γ.ss fp H) H As (l.map (eval tb f)) x
 |_,_,_, .nil=>rfl
 |_,_,_, .one h=>⟨_,rfl,h E rv fp f H R⟩
 |_,_,_, .cons h k=>⟨_,_,rfl,h E rv fp f H R,k.spec R⟩
def tupL:(Rs:List T)→BG Rs→List (Σ t:T,t.α)
 |[],_=>[]
 |[a],x=>[⟨a,x⟩]
 |a::b::r,x=>⟨a,x.1⟩::tupL (b::r) x.2
theorem sY{P:Nat→Prop}{H:A6}: ∀{Rs:List T} {vs:List AV} {x:BG Rs},Vl P H Rs vs x→XJ P H vs (tupL Rs x)
 |[],_,_,h=>by rw[show _=[]from h];trivial
 |[a],_,_,⟨v,e,h⟩=>by rw[e];exact⟨h,trivial⟩
 |a::b::r,_,_,⟨v,q,e,h,g⟩=>by rw[e];exact⟨h,sY g⟩
def zF:(Rs:List T)→BG Rs→AY
 |[a],x=> .val a x
 |Rs,x=> .tup (tupL Rs x)
theorem WM{rv:Nat→AV}{ss:Ss}{P:Nat→Prop}{H:A6}{v:AV}: ∀{Rs:List T} {x:BG Rs},OutR P H Rs v x→FR rv ss P H (zF Rs x) v
 |[],_,⟨vs,e,h⟩=>by rw[e,show vs=[]from h];exact⟨[],rfl,trivial⟩
 |[a],_,⟨vs,e,v,e',h⟩=>by rw[e,e'];exact h
 |a::b::r,_,⟨vs,e,h⟩=>by
  have hh:=h;obtain⟨v1,q,e1,h1,h2⟩:=h;have: ∃v2 q2,q=v2::q2:=by
   cases r with
   |nil=>obtain⟨v2,e2,_⟩:=h2;exact⟨v2,[],e2⟩
   |cons c r=>obtain⟨v2,q2,e2,_⟩:=h2;exact⟨v2,q2,e2⟩
  obtain⟨v2,q2,e2⟩:=this;refine⟨vs,?_,sY hh⟩;rw[e,e1,e2];rfl
theorem h_call{g:Nat}{As Rs:List T}{F:BG As→Option (BG Rs)}{l:List AO}{x:BG As}(sp:Spec tb g As Rs F)(hx:sN tb Γ As l x):EG tb Γ (.call g l) (F x) fun r=>zF Rs r:=by
 intro E rv fp f H R r hr;obtain⟨v,u,h1,h2,h3⟩:=(sp (Pf E Γ.ss fp H) H _ x R.ltP R.wf (hx.spec R) r hr).call;exact⟨v,u,by simp only[BA];exact h1,h2,WM h3⟩
theorem AI{g:Nat}{As:List T}{t:T}{F:BG As→Option (BG [t])}{l:List AO}{x:BG As}(sp:Spec tb g As [t] F)(hx:sN tb Γ As l x):EG tb Γ (.call g l) (F x) fun r:t.α=> .val t r:=h_call sp hx
theorem B4{g:Nat}{As:List T}{t u:T}{Rs:List T}{F:BG As→Option (BG (t::u::Rs))}{l:List AO}{x:BG As}(sp:Spec tb g As (t::u::Rs) F)(hx:sN tb Γ As l x):EG tb Γ (.call g l) (F x) fun r=> .tup (tupL (t::u::Rs) r):=h_call sp hx
theorem AU{l:List (Σ t:T,t.α)}{i:Nat}{t:T}{x:t.α}(ha:C4 tb Γ a (.tup l))(h:l[i]? =some ⟨t,x⟩):EG tb Γ (.ext a i) (some ()) fun _=> .val t x:=by
 rintro E rv fp f H R _ ⟨⟩;obtain⟨vs,e,hv⟩:=ha E rv fp f H R;have: ∀{vs:List AV} {l:List (Σ t:T,t.α)} {i:Nat} {p: Σ t:T,t.α},XJ (Pf E Γ.ss fp H) H vs l→l[i]? =some p→ ∃v,vs[i]? =some v∧p.1.V (Pf E Γ.ss fp H) H v p.2:=by
  intro vs
  induction vs with
  |nil=>intro l i p h e;cases l with|nil=>simp at e|cons=>exact h.elim
  |cons v vs ih=>
   intro l i p h e;cases l with
   |nil=>exact h.elim
   |cons q l=>
    cases i with
    |zero=>simp only[bw,ae]at e;subst e;exact⟨v,rfl,h.1⟩
    |succ i=>simp only[di]at e;obtain⟨w,h1,h2⟩:=ih h.2 e;exact⟨w,by simpa using h1,h2⟩
 obtain⟨v,h1,h2⟩:=this hv h;exact⟨v,none,by simp only[BA,e,h1,val,ak],rfl,h2⟩
end
structure CA(t:T)(l:List CK) where
 d:(x y:t.α)→Decidable (x=y)
 h: ∀{P Q:Nat→Prop} {H G:A6} {c c':List AV} {x y:t.α},t.R P H c x→t.R Q G c' y→NE l c c'=some (@decide (x=y) (d x y))
theorem eqS_app{l m:List CK}: ∀{c d c' d':List AV} {p q:Bool},NE l c c'=some p→NE m d d'=some q→NE (l++m) (c++d) (c'++d')=some (p&&q):=by
 induction l with
 |nil=>
  intro c d c' d' p q h g
  match c,c',h with
  |[],[],h=>simp only[NE,ae]at h;subst h;simpa using g
 |cons k l ih=>
  intro c d c' d' p q h g
  match c,c',h with
  |[],[],h=>simp[NE]at h
  |[],_::_,h=>simp[NE]at h
  |_::_,[],h=>simp[NE]at h
  |x::c,y::c',h=>
   simp only[NE]at h;obtain⟨e,he,h⟩:=ad.1 h;obtain⟨e',he',rfl⟩:=aj.1 h;simp only[cd,NE,he,aa,ih he' g,ak,Bool.and_assoc]
theorem rU{p q:Prop}{d:Decidable p}{e:Decidable q}(h:p↔q): @decide p d= @decide q e:=by
 rw[gq];simp only[t8];exact h
theorem dec_of{p:Prop}{d:Decidable p}{q:Bool}(h:q=true↔p):q= @decide p d:=by
 rw[gq];simp only[t8];exact h
def cN{α:Type}{c:α→AV}{z:α}{hs: ∀x,scal (c x)=true}{hm: ∀x,ment (c x)=0}(k:CK)(d:(x y:α)→Decidable (x=y))(h: ∀x y,eq1 k (c x) (c y)=some (@decide (x=y) (d x y))):CA (Wi α c z hs hm) [k]:=
 ⟨d,fun{P Q H G c' d' x y} h1 h2=>by
  rw[show c'=_ from h1,show d'=_ from h2];show(eq1 k (c x) (c y)).bind (fun a=>(some true).map fun b=>a&&b)=_;rw[h x y];simp only[aa,ak,lc]
  rfl⟩
def CA.b:CA du [.b]:=cN .b (fun x y=>inferInstance) fun x y=>by cases x<;>cases y<;>rfl
def CA.int(k:IntKind):CA (am k) [.i k]:=cN (.i k) (fun x y=>inferInstance) fun x y=>by simp only[eq1,and_self,uc];rfl
theorem eq_nat{x y:Nat}:((x:Int)==(y:Int))=decide (x=y):=by
 rw[gq];simp only[beq_iff_eq,t8];omega
def CA.u8:CA bi [.i .u8]:=cN (.i .u8) (fun x y=>inferInstance) fun x y=>by
 simp only[eq1,and_self,uc,eq_nat];congr 1;exact rU ii
def CA.u64:CA bx [.i .u64]:=cN (.i .u64) (fun x y=>inferInstance) fun x y=>by
 simp only[eq1,and_self,uc,eq_nat];congr 1;exact rU UInt64.toNat_inj
def CA.prod{s t:T}{l m:List CK}(p:CA s l)(q:CA t m):CA (fj s t) (l++m):=
 ⟨fun x y=> @decidable_of_iff _ (x.1=y.1∧x.2=y.2) ⟨fun h=>Prod.ext h.1 h.2,fun h=>by rw[h];exact⟨rfl,rfl⟩⟩ (have:=p.d x.1 y.1;have:=q.d x.2 y.2;inferInstance),fun{P Q H G c c' x y} ⟨c1,d1,e1,h1,g1⟩ ⟨c2,d2,e2,h2,g2⟩=>by
  rw[e1,e2,eqS_app (p.h h1 h2) (q.h g1 g2)];congr 1;rw[gq];simp only[af,t8];exact⟨fun h=>Prod.ext h.1 h.2,fun h=>by rw[h];exact⟨rfl,rfl⟩⟩⟩
def CA.iso{t:T}{l:List CK}{β:Type}{f:β→t.α}{g:t.α→β}{hfg: ∀y,f (g y)=y}(p:CA t l)(d:(x y:β)→Decidable (x=y))(hi: ∀x y,f x=f y→x=y):CA (nc t β f g hfg) l:=
 ⟨d,fun{P Q H G c c' x y} h1 h2=>by
  have:=p.h (x:=f x) (y:=f y) h1 h2;rw[this];congr 1;exact rU ⟨hi x y,fun h=>by rw[h]⟩⟩
def repK(l:List CK):Nat→List CK
 |0=>[]
 |n+1=>l++repK l n
theorem CA.all{t:T}{l:List CK}(p:CA t l){P Q:Nat→Prop}{H G:A6}: ∀{c c':List (List AV)} {x y:List t.α},x.length=y.length→CM t P H c x→CM t Q G c' y→ ∃q,NE (repK l x.length) c.flatten c'.flatten=some q∧(q=true↔x=y):=by
 intro c
 induction c with
 |nil=>
  intro c' x y hl h1 h2
  match x,h1 with
  |[],_=>
   match c',y,h2,hl with
   |[],[],_,_=>exact⟨true,rfl,by simp⟩
   |_::_,_::_,_,hl=>simp at hl
 |cons a c ih=>
  intro c' x y hl h1 h2
  match x,h1 with
  |u::x,h1=>
   match c',y,h2 with
   |[],[],_=>simp at hl
   |a'::c',v::y,h2=>
    obtain⟨q,e,hq⟩:=ih (by simpa using hl) h1.2 h2.2;refine⟨_,by rw[ba,repK,bz,bz];exact eqS_app (p.h h1.1 h2.1) e,?_⟩;simp only[af,t8,hq,gr]
def CA.arr{t:T}{l:List CK}(n:Nat)(p:CA t l):CA (aw n t) (repK l n):=
 ⟨fun(x y:Ar t.α n)=> @decidable_of_iff _ (x.l=y.l) ⟨fun h=>pi h,fun h=>by rw[h]⟩ (have:DecidableEq t.α:=p.d;inferInstance),fun{P Q H G c c' x y} ⟨cs,e,h⟩ ⟨ds,e',h'⟩=>by
  obtain⟨q,hq,hi⟩:=p.all (x.len.trans y.len.symm) h h';rw[x.len]at hq;rw[e,e',hq];congr 1;exact dec_of (hi.trans ⟨fun h=>pi h,fun h=>by rw[h]⟩)⟩
section
variable{tb:CV}{Γ:Cx}{a b:AO}
theorem Q6{t:T}{l l':List CK}{x y:t.α}{neg:Bool}(p:CA t l)(ht:t.agg=true)(hl:l'=l)(ha:C4 tb Γ a (.val t x))(hb:C4 tb Γ b (.val t y)):EG tb Γ (.eq neg (.agg l') a b) (some (if neg then !(@decide (x=y) (p.d x y))else @decide (x=y) (p.d x y))) fun z=> .val du z:=by
 rintro E rv fp f H R z ⟨⟩;subst hl;rcases ha E rv fp f H R with ⟨_,c,e,r⟩|⟨e,_⟩
 ·rcases hb E rv fp f H R with ⟨_,c',e',r'⟩|⟨e',_⟩
  ·exact⟨_,none,by simp only[BA,e,e',jL,p.h r r',ak,val],rfl,FW.2 rfl⟩
  ·rw[ht]at e';cases e'
 ·rw[ht]at e;cases e
theorem GH{s t:T}{x:s.α}{y:t.α}{n j o o' m k N:Nat}{ps:List (Nat×AY)}(F:AN s (aw n t) o')(hk:k=t.sz)(ha:C4 tb Γ a (.cp j (o+m*t.sz)))(hb:C4 tb Γ b (.val t y))(hj:AQ Γ.ss j=some (.cells ps))(hp:Jv ps o=some (N, .val s x,o')):
  UP tb Γ none (.st k a b) (if m<n then some (F.put x ((F.get x).set m y))else none) fun x'=>Γ.setS j (.cells (V6 ps o (.val s x'))):=by
 intro E rv fp f H R x' hx'
 split at hx'
 ·rename_i hlt;cases hx';obtain⟨l,id,e,hv⟩:=ha E rv fp f H R;obtain⟨cs,h0,h2,h3⟩:=GW R hj e;obtain⟨b',c,e0,e1,e2,e3,e4,e5,e6⟩:=FQ h3 hp
  let G:=M3 F (AN.at n t m hlt)
  have hle:=G.le;have hl:=s.len e4;have hy:=ng (hb E rv fp f H R);have hyl:=t.len hy;have hput:=G.putR e4 hy;have hpr:=e6 (o'+m*t.sz) (cellsOf (eval tb f b)) (.val s (G.put x y)) (by omega) hput;rw[show b'+(o'+m*t.sz)=o+m*t.sz by omega]at hpr;have hmen:=tk R.ltP R.rvlt h3;have hym:=t.men hy R.ltP;subst hk;have hlt':=(R.fplt j id l ((h0 id).2 rfl)).1;obtain⟨rv',fp',_,_,R'⟩:=R.set (j:=j) (S:= .cells (V6 ps o (.val s (G.put x y)))) (v:=rv j) (o:= .cells (EQ H id) (B7 cs (o+m*t.sz) (cellsOf (eval tb f b)))) (by rw[hj];rfl) l h0 (by simp only[DW];exact Rq hmen hym) rfl (R.rvlt j l) (.inl rfl) (R.scal j l) fun rv' fp' e1 e2 hP hs=>
   ⟨id,_,by rw[e1,e],e2,by simp[BR,hlt'],sa hP (by simp) (fun p _=>hs p.2 (.inl rfl)) hpr⟩
  refine⟨.junk,some (H.set id (BU.cells (EQ H id) (B7 cs (o+m*t.sz) (cellsOf (eval tb f b))))),?_,rv',fp',R'⟩;simp only[BA,hv,store,h2,aa];rw[t6 ⟨hyl,by omega⟩]
  rfl
 ·cases hx'
theorem BO{s t:T}{x:s.α}{n j o o' N m:Nat}{ag:Bool}{ps:List (Nat×AY)}(h:BP Γ.ts n=some (.cp j o))(hj:AQ Γ.ss j=some (.cells ps))(hp:Jv ps o=some (N, .val s x,o'))(F:AN s t o')(hag:ag=t.agg)(hm:m=t.sz):ResF Γ (.cell ag m n) t (F.get x):=by
 intro E rv fp f H R r vs hr;obtain⟨v,u,h1,_,h3⟩:=A4 (tb:=⟨fun _=>none,fun _=>none,fun _=>none,[]⟩) (Cq h) hj hp F hag hm E rv fp f H R () rfl;refine⟨v,?_,h3⟩;simp only[BA,eval,val]at h1;obtain⟨w,hw,e⟩:=aj.1 h1;cases e;simp only[results,hw,aa,hr,ak]
theorem M_bls{t:T}{zero:List (List AV)}{d t0 sz n:Nat}{ps:List (Nat×AO)}{l:List t.α}(j:Nat)(hs:sz=t.sz)(hz:zero=az n t.zc)(h:AbD tb Γ t ps (az n t.z) l)(hj:AQ Γ.ss j=none):
  UP tb Γ (some d) (.bls t0 sz zero ps) (some l) fun l=>⟨(d, .own j)::Γ.ts,(j, .row t (.mk l))::Γ.ss⟩:=by
 intro E rv fp f H R l' hl';cases hl';subst hz hs;obtain⟨ds,h1,h2⟩:=h.spec R (ti (t.hz _ _) n);have hm:=h2.men R.ltP;obtain⟨rv',fp',g1,g2,g3⟩:=R.more (j:=j) (S:= .row t (.mk l)) (v:= .orow H.length ds.length 0 ds.length) (o:= .row (some t0) false t.sz ds) (GO hj) (by simp only[DW];omega) rfl (by simp[ment]) rfl fun rv' fp' e1 e2 hP hs=>
  ⟨_,ds,e1,e2,by simp[rowAt],h2.mono hP⟩
 exact⟨.orow H.length ds.length 0 ds.length,some (H++[BU.row (some t0) false t.sz ds]),by simp only[BA,h1,ak],rv',fp',g3.push (φ:= .own j) ⟨g2,g1.symm⟩⟩
end
def look{α:Type}(n:Nat):List (Nat×α)→Option α
 |[]=>none
 |(k,v)::r=>if fx n k then some v else look n r
theorem Tp{α:Type}{n:Nat}{v:α}: ∀{l:List (Nat×α)},look n l=some v→(n,v)∈l
 |[],h=>by simp[look]at h
 |(k,u)::r,h=>by
  simp only[look]at h
  split at h
  ·rename_i e;obtain rfl:=be h;obtain rfl:=cm e;exact bg
  ·exact a8 _ (Tp h)
theorem jG{tb:CV}{g:Nat}{f:List UInt8→UInt8→Int}(hp:tb.prim g=some (mX f)):Spec tb g [Au,bi] [am .i64] fun a=>some (f a.1 a.2):=by
 rintro P h args ⟨x,y⟩ _ _ ⟨v,q,rfl,h1,w,rfl,h2⟩ r hr;cases hr;refine⟨_,none,?_,rfl,[.i .i64 (f x y)],rfl,_,rfl,BZ.2 rfl⟩;have hy: ∀z:UInt8,bb ((z.toNat:Int)).toNat=z:=fun z=>by simp
 rw[Ek.1 h1,Zk.1 h2];simp only[BD,hp,mX,byteA,TR,aa];show some (AV.i .i64 (f x (bb ((sv y:Nat):Int).toNat)),none)=_;exact ue (fun c:UInt8=>(some (AV.i .i64 (f (show AP from x) c),(none:Option A6)))) (hy (show UInt8 from y))
end
section
def isPt:AV→Bool
 | .ptr _ _=>true
 | .pe _ _ _ _=>true
 |_=>false
def RefR(t:T)(P:Nat→Prop)(H:A6)(cs:List AV):Option t.α→Prop
 |none=>cs=[.nilp]
 |some y=> ∃v,cs=[v]∧isPt v=true∧jM t P H v y
theorem jM.cut{t:T}{P Q:Nat→Prop}{H:A6}{v:AV}{y:t.α}{n:Nat}(hv:isPt v=true)(h:jM t P H v y)(hm:ment v≤n)(hw:C7 (H.take n)≤n)(hp: ∀i,P i→i<n→Q i):jM t Q (H.take n) v y:=by
 obtain⟨h1,cs,off,h2,h3,h4,_⟩:=h;cases v<;>simp only[isPt,ah]at hv
 ·rename_i id o;simp only[ment]at hm;simp only[aS]at h1;simp only[place]at h2;obtain⟨c,hc,e⟩:=aj.1 h2;cases e;refine⟨hp _ h1 (by omega),cs,off,by simp only[place];rw[N6 (by omega),hc];rfl,h3,t.cut h4 ?_ hw hp,fun m hq=> ?_⟩
  ·have:=Xy hw (by omega) hc;exact dj (Mn _ _) (dj (Kb _ _) this)
  ·simp only[ment];exact hq _ (hp _ h1 (by omega))
 ·rename_i id n' i o;simp only[ment]at hm;simp only[aS]at h1;simp only[place]at h2;obtain⟨r,hr,h2⟩:=ad.1 h2
  split at h2
  ·rename_i hn;cases h2;refine⟨hp _ h1 (by omega),_,_,by simp only[place];rw[V4 (by omega),hr,aa,t6 hn],h3,t.cut h4 ?_ hw hp,fun m hq=> ?_⟩
   ·have:=eH hw (by omega) hr;have h5: ∀(l:List (List AV)) (i:Nat),CT (l.drop i)≤CT l:=by
     intro l
     induction l with
     |nil=>intro i;simp
     |cons x l ih=>
      intro i;cases i with
      |zero=>exact bc _
      |succ i=>simp only[jy,CT];have:=ih i;omega
    have h6:=h5 r.2.2 n';rw[←Rr]at h6;exact dj (Mn _ _) (dj (Kb _ _) (by omega))
   ·simp only[ment];exact hq _ (hp _ h1 (by omega))
  ·cases h2
def xU(t:T):T where
 α:=Option t.α
 sz:=1
 agg:=false
 dep:=21
 R:=RefR t
 zc:=[.nilp]
 z:=none
 hz:=fun _ _=>rfl
 one:=fun _=>rfl
 len:=fun{_ _ _ x} h=>by
  cases x with
  |none=>rw[show _=[AV.nilp]from h];rfl
  |some y=>obtain⟨v,e,_⟩:=h;rw[e];rfl
 sca:=fun{_ _ _ x} h=>by
  cases x with
  |none=>rw[show _=[AV.nilp]from h];rfl
  |some y=>obtain⟨v,e,hv,_⟩:=h;rw[e];cases v<;>simp only[isPt,ah]at hv<;>rfl
 men:=fun{_ _ _ x m} h hp=>by
  cases x with
  |none=>rw[show _=[AV.nilp]from h];simp[Bv,ment]
  |some y=>obtain⟨v,e,_,_,_,_,_,_,_,hm⟩:=h;rw[e];simpa [Bv]using hm m hp
 mono:=fun{_ _ _ _ _ x} m h=>by
  cases x with
  |none=>exact h
  |some y=>obtain⟨v,e,hv,k⟩:=h;exact⟨v,e,hv,k.mono m⟩
 cut:=fun{_ _ _ _ x _} h hm hw hp=>by
  cases x with
  |none=>exact h
  |some y=>obtain⟨v,e,hv,k⟩:=h;exact⟨v,e,hv,k.cut hv (by rw[e]at hm;simpa [Bv]using hm) hw hp⟩
 frz:=fun _ hd h20 _ _=>by omega
section
variable{tb:CV}{Γ:Cx}{a b:AO}
theorem BL{j o:Nat}(ha:C4 tb Γ a (.cp j o)):EG tb Γ (.nilc a) (some ()) fun _=> .cp j o:=by
 rintro E rv fp f H R z ⟨⟩;obtain⟨l,id,e,hv⟩:=ha E rv fp f H R;exact⟨.ptr id o,none,by simp only[BA,hv],rfl,l,id,e,rfl⟩
theorem nil_rp{t:T}{x:t.α}{P:Nat→Prop}{H:A6}{v:AV}{cl:Nat→List AV→A6→M2}{rho:AO→AV}(e:rho a=v)(h:jM t P H v x):BA tb cl rho H (.nilc a)=some (v,none):=by
 have:=h.1;cases v<;>simp only[aS]at this<;>simp only[BA,e]
theorem h_nilR{t:T}{x:Option t.α}(ha:C4 tb Γ a (.val (xU t) x)):EG tb Γ (.nilc a) x fun y=> .rp t y:=by
 rintro E rv fp f H R y rfl;rcases ha E rv fp f H R with ⟨h,_⟩|⟨_,v,e,hv,h⟩
 ·cases h
 ·cases e;exact⟨_,none,nil_rp rfl h,rfl,h⟩
def T.Flat(t:T):Prop:= ∀{P Q:Nat→Prop} {H G:A6} {cs:List AV} {x:t.α},t.R P H cs x→t.R Q G cs x
theorem flat_b:du.Flat:=fun h=>h
theorem vP{k:IntKind}:(am k).Flat:=fun h=>h
theorem flat_u64:bx.Flat:=fun h=>h
theorem T2:Au.Flat:=fun h=>h
theorem T.Flat.V{t:T}(h:t.Flat){P Q:Nat→Prop}{H G:A6}{v:AV}{x:t.α}(r:t.V P H v x):t.V Q G v x:=by
 rcases r with ⟨a,cs,e,r⟩|⟨a,r⟩
 ·exact .inl ⟨a,cs,e,h r⟩
 ·exact .inr ⟨a,h r⟩
inductive XO:List T→Prop where
 |nil:XO []
 |cons {t:T} {l:List T}:t.Flat→XO l→XO (t::l)
theorem Vl.flat{P Q:Nat→Prop}{H G:A6}: ∀{l:List T} {vs:List AV} {x:BG l},XO l→Vl P H l vs x→Vl Q G l vs x
 |[],_,_,_,h=>h
 |[a],_,_, .cons k _,⟨v,e,h⟩=>⟨v,e,k.V h⟩
 |_::_::_,_,_, .cons k l,⟨v,q,e,h,g⟩=>⟨v,q,e,k.V h,Vl.flat l g⟩
def ArgP(tb:CV)(Γ:Cx)(a:AO)(t:T)(x:t.α):Prop:= ∀E rv fp f H,B5 E Γ rv fp f H→t.V (fun i=>i<H.length) H (eval tb f a) x
theorem a_v{t:T}{x:t.α}(h:C4 tb Γ a (.val t x)):ArgP tb Γ a t x:=fun E rv fp f H R=>T.V.mono (fun i hi=>⟨Pf.lt R.le hi,rfl⟩) (h E rv fp f H R)
theorem a_p{t:T}{x:t.α}{j o N:Nat}{ps:List (Nat×AY)}(ha:C4 tb Γ a (.cp j o))(hj:AQ Γ.ss j=some (.cells ps))(hp:Jv ps o=some (N, .val t x,0)):ArgP tb Γ a (xU t) (some x):=by
 intro E rv fp f H R;obtain⟨l,id,e,hv⟩:=ha E rv fp f H R;obtain⟨cs,h0,h2,h3⟩:=GW R hj e;obtain⟨b',c,e0,e1,e2,e3,e4,e5,_⟩:=FQ h3 hp;have hlen:=t.len e4;have hlt:=(R.fplt j id l ((h0 id).2 rfl)).1;have hs:=e5 0 t.sz (by omega);rw[i6]at e1 hs;subst e1;have hc:sub c 0 t.sz=c:=by simp only[sub,dq];exact au (by omega)
 rw[hc]at hs;refine .inr ⟨rfl,_,rfl,by rw[hv];rfl,?_⟩;rw[hv];refine⟨hlt,cs,o,by simp only[place,h2,ak],by omega,by rw[hs];exact t.mono (fun i hi=>⟨Pf.lt R.le hi,rfl⟩) e4,fun m hm=> ?_⟩;simp only[ment];exact hm _ hlt
inductive lU(tb:CV)(Γ:Cx):(As:List T)→List AO→BG As→Prop where
 |one {a:AO} {t:T} {x:t.α} (h:ArgP tb Γ a t x):lU tb Γ [t] [a] x
 |cons {a:AO} {t u:T} {x:t.α} {As:List T} {l:List AO} {y:BG (u::As)} (h:ArgP tb Γ a t x) (k:lU tb Γ (u::As) l y):lU tb Γ (t::u::As) (a::l) (x,y)
theorem lU.spec{E:QS}{rv:Nat→AV}{fp:Fp}{f:Fr}{H:A6}(R:B5 E Γ rv fp f H): ∀{As:List T} {l:List AO} {x:BG As},lU tb Γ As l x→Vl (fun i=>i<H.length) H As (l.map (eval tb f)) x
 |_,_,_, .one h=>⟨_,rfl,h E rv fp f H R⟩
 |_,_,_, .cons h k=>⟨_,_,rfl,h E rv fp f H R,k.spec R⟩
theorem h_callR{g:Nat}{As Rs:List T}{F:BG As→Option (BG Rs)}{l:List AO}{x:BG As}(sp:Spec tb g As Rs F)(fl:XO Rs)(hx:lU tb Γ As l x):EG tb Γ (.call g l) (F x) fun r=>zF Rs r:=by
 intro E rv fp f H R r hr;obtain⟨v,u,h1,h2,vs,h3,h4⟩:=(sp (fun i=>i<H.length) H _ x (fun _ h=>h) R.wf (hx.spec R) r hr).call;exact⟨v,u,by simp only[BA];exact h1,h2,WM ⟨vs,h3,h4.flat fl⟩⟩
theorem h_callR1{g:Nat}{As:List T}{t:T}{F:BG As→Option (BG [t])}{l:List AO}{x:BG As}(sp:Spec tb g As [t] F)(fl:XO [t])(hx:lU tb Γ As l x):EG tb Γ (.call g l) (F x) fun r:t.α=> .val t r:=h_callR sp fl hx
end
end
section
def XP:Dom where
 α:=AP×Nat
 R:=fun F _ H v x=> ∃id,v= .ptr id 0∧(∀i,F i↔i=id)∧H[id]? =some (.iter x.1 x.2)
 lt:=fun⟨id,_,hF,h⟩ i hi=>by rw[(hF i).1 hi];exact(cg.1 h).1
 men:=fun⟨id,e,hF,_⟩ _ hm=>by rw[e];simp only[ment];exact hm id ((hF id).2 rfl)
 mono:=fun _ g ⟨id,e,hF,h⟩=>⟨id,e,hF,by rw[g id ((hF id).2 rfl)];exact h⟩
def E2(s:AP)(pos:Nat):Int×Nat:=((il ⟨s.toArray⟩ pos).1,(il ⟨s.toArray⟩ pos).2)
section
variable{tb:CV}{Γ:Cx}{a b:AO}
theorem o_n8{x:UInt8}(h:C4 tb Γ a (.val bi x)):C4 tb Γ a (.val (am .u8) (x.toNat:Int)):=fun E rv fp f H R=>BZ.2 (Zk.1 (h E rv fp f H R))
theorem o_n16{x:UInt16}(h:C4 tb Γ a (.val dy x)):C4 tb Γ a (.val (am .u16) (x.toNat:Int)):=fun E rv fp f H R=>BZ.2 (sK.1 (h E rv fp f H R))
theorem OX{x:UInt32}(h:C4 tb Γ a (.val n8 x)):C4 tb Γ a (.val (am .u32) (x.toNat:Int)):=fun E rv fp f H R=>BZ.2 (sJ.1 (h E rv fp f H R))
theorem M_rng{s:AP}{d:Nat}(j:Nat)(hj:AQ Γ.ss j=none)(ha:C4 tb Γ a (.val Au s)):UP tb Γ (some d) (.rng a) (some ()) fun _=>⟨(d, .own j)::Γ.ts,(j, .dom XP (s,0))::Γ.ss⟩:=by
 rintro E rv fp f H R _ ⟨⟩;obtain⟨rv',fp',h1,h2,h3⟩:=R.more (j:=j) (S:= .dom XP (s,0)) (v:= .ptr H.length 0) (o:= .iter s 0) (GO hj) (by simp[DW]) rfl (by simp[ment]) rfl fun rv' fp' e1 e2 hP hs=>
  ⟨_,e1,e2,by simp⟩
 refine⟨.ptr H.length 0,some (H++[BU.iter s 0]),by simp only[BA,Ek.1 (ha E rv fp f H R)],rv',fp',h3.push (d:=d) (φ:= .own j) ⟨h2,h1.symm⟩⟩
variable{ks:List Kf}{ρ:Type}{Q:OC ρ}
def Aa.nxt{s:AP}{pos j d:Nat}{rest:List Bh}(ha:C4 tb Γ a (.own j))(hj:AQ Γ.ss j=some (.dom XP (s,pos)))
  (k1:(x:Int×Nat)→Aa tb ⟨(d, .tup [⟨du,true⟩,⟨am .i64,((pos:Nat):Int)⟩,⟨am .i32,x.1⟩])::Γ.ts,(j, .dom XP (s,pos+x.2))::Γ.ss⟩ (rg false rest) ks Q)
  (k2:Aa tb ⟨(d, .tup [⟨du,false⟩])::Γ.ts,Γ.ss⟩ (rg false rest) ks Q):Aa tb Γ (rg false (⟨some d,none, .nxt a⟩::rest)) ks Q:=
 ⟨if pos<s.length then(k1 (E2 s pos)).m else k2.m,fun E f H ⟨rv,fp,I⟩ r hr=>by
  have hl:Bn Γ.ss j:=Kz hj rfl;obtain⟨_,hv⟩:=ha E rv fp f H I;obtain⟨id,e,hF,hH⟩:=I.slots j _ hj;rw[e]at hv;have hi:fO H id=some (s,pos):=by simp only[fO,hH]
  split at hr
  ·rename_i hp;obtain⟨rv',fp',h1,h2,h3⟩:=I.set (j:=j) (S:= .dom XP (s,pos+(E2 s pos).2)) (v:=rv j) (o:= .iter s (pos+(E2 s pos).2)) (by rw[hj];rfl) hl hF (by simp[DW]) rfl (I.rvlt j hl) (.inl rfl) (I.scal j hl)
    fun rv' fp' e1 e2 hP _=>⟨id,by rw[e1,e],e2,by rw[de (I.fplt j id hl ((hF id).2 rfl)).1]⟩
   have hx:BA tb (C3 tb) (eval tb f) H (.nxt a)=some (.tup [.b true, .i .i64 pos, .i .i32 (E2 s pos).1],some (H.set id (BU.iter s (pos+(E2 s pos).2)))):=by
    simp only[BA,hv,hi,aa,uc,t6 hp];rfl
   obtain⟨e',f',H',h4,h5⟩:=(k1 (E2 s pos)).ok E _ _ ⟨rv',fp',h3.push (d:=d) (φ:= .tup [⟨du,true⟩,⟨am .i64,((pos:Nat):Int)⟩,⟨am .i32,(E2 s pos).1⟩])
    ⟨[.b true, .i .i64 pos, .i .i32 (E2 s pos).1],rfl,FW.2 rfl,BZ.2 rfl,BZ.2 rfl,trivial⟩⟩ r hr
   exact⟨e',f',H',by rw[Mc hx];exact h4,h5⟩
  ·rename_i hp;have hx:BA tb (C3 tb) (eval tb f) H (.nxt a)=some (.tup [.b false],none):=by
    simp only[BA,hv,hi,aa,uc,t7 hp]
   obtain⟨e',f',H',h4,h5⟩:=k2.ok E _ H ⟨rv,fp,I.push (d:=d) (φ:= .tup [⟨du,false⟩]) ⟨[.b false],rfl,FW.2 rfl,trivial⟩⟩ r hr;exact⟨e',f',H',by rw[Mc hx];exact h4,h5⟩⟩
def QR{x y:AC}(h:C4 tb Γ a (.val du true))(s:Aa tb Γ x ks Q):Aa tb Γ (.cond a x y) ks Q:=
 ⟨s.m,fun E f H ⟨rv,fp,I⟩ r hr=>by
  have hv:=FW.1 (h E rv fp f H I);obtain⟨e,f',H',h4,h5⟩:=s.ok E f H ⟨rv,fp,I⟩ r hr;exact⟨e,f',H',by simp only[Bp,hv,uc];exact h4,h5⟩⟩
def U2{x y:AC}(h:C4 tb Γ a (.val du false))(s:Aa tb Γ y ks Q):Aa tb Γ (.cond a x y) ks Q:=
 ⟨s.m,fun E f H ⟨rv,fp,I⟩ r hr=>by
  have hv:=FW.1 (h E rv fp f H I);obtain⟨e,f',H',h4,h5⟩:=s.ok E f H ⟨rv,fp,I⟩ r hr;exact⟨e,f',H',by simp only[Bp,hv,ah,ud];exact h4,h5⟩⟩
end
end
section
def Ux:GI→Bool
 | .mv _=>true
 | .pick _ _ _=>true
 | .bld _ _=>true
 | .bll _ _ _=>true
 | .fa _ _=>true
 | .nilc _=>true
 | .bin _ _ _=>true
 | .eq _ _ _ _=>true
 | .un _ _=>true
 | .cvi _ _=>true
 | .cvid _=>true
 | .cvc _=>true
 | .mkf _ _ _=>true
 | .sls _ _ _=>true
 | .fld _ _ _ _=>true
 | .iaa _ _ _ _=>true
 | .ixa _ _ _ _ _=>true
 | .ixs _ _=>true
 | .ext _ _=>true
 | .mkif _ _=>true
 | .len _=>true
 | .lens _=>true
 | .mnx _ _ _=>true
 | .isni _ _=>true
 | .capn _=>true
 |_=>false
structure bV where
 o:GI
 v:AV
 c:Nat
def vK(d:Option Nat)(o:GI):Bool:=
 match d with
 |some d=>(opT o).all fun t=> !Nat.beq d t
 |none=>true
def Tz(d:Option Nat):List bV→Bool
 |[]=>true
 |m::r=>vK d m.o&&Tz d r
def rV:List bV→List bV
 |[]=>[]
 |m::r=>match m.c with
  |0=>rV r
  |1=>rV r
  |c+2=>{m with c:=c+1}::rV r
def Ti(N k lo hi:Nat)(o:GI):Bool:=(fx lo k&&fx hi k)||(Ux o&&ou hi N)
def xR(N k lo hi:Nat)(o:GI)(v:AV)(ms:List bV):List bV:=
 bif Ti N k lo hi o then ms else⟨o,v,hi-k⟩::ms
def uV(N k lo hi:Nat)(d:Option Nat)(o:GI):Bool:=fx lo k&&(ou hi N&&vK d o)
structure Eob where
 ag:Bool
 n:Nat
 a:AV
 v:AV
 lo:Nat
def Hn(tb:CV)(cl:Nat→List AV→A6→M2)(N:Nat):Nat→List bV→List Eob→List Bh→List (Option (Nat×Nat))→Fr→A6→Fr×A6→Prop
 |k,_,_,[],[],f,h,p=>k=N∧p=(f,h)
 |k,ms,es,⟨d,g,o⟩::l,none::w,f,h,p=>(wanted f g=some true∧ ∃q es',BA tb cl (eval tb f) h o=some q∧Tz d ms=true∧
   (∀m∈ms,0<m.c→ ∃u,BA tb cl (eval tb (put f d q.1)) (q.2.getD h) m.o=some (m.v,u)∧u.getD (q.2.getD h)=q.2.getD h)∧
   (∀e∈es',(e∈es∨e.lo=k)∧load h e.ag e.n e.a=some e.v)∧Hn tb cl N (k+1) (rV ms) es' l w (put f d q.1) (q.2.getD h) p)∨
   (wanted f g=some false∧ms=[]∧Hn tb cl N (k+1) [] [] l w (put f d (.tup [])) h p)
 |k,ms,es,⟨d,g,o⟩::l,some (lo,hi)::w,f,h,p=>(wanted f g=some true∧ ∃q,BA tb cl (eval tb f) h o=some q∧q.2.getD h=h∧Tz d ms=true∧
   (((Ti N k lo hi o||uV N k lo hi d o)=true∧Hn tb cl N k (xR N k lo hi o q.1 ms) es l w (put f d q.1) h p)∨
    (hi=k∧(∃e∈es,∃t,o= .ld e.ag e.n (.t t)∧get f t=e.a∧q.1=e.v∧e.lo≤lo)∧Hn tb cl N k ms es l w (put f d q.1) h p)))∨
   (wanted f g=some false∧Tz d ms=true∧Hn tb cl N k ms es l w (put f d (.tup [])) h p)
 |_,_,_,_,_,_,_,_=>False
section
variable{tb:CV}{cl:Nat→List AV→A6→M2}
theorem aop_blind{o:GI}(ho:Ux o=true){rho:AO→AV}{h h':A6}:BA tb cl rho h o=BA tb cl rho h' o:=by
 cases o<;>first|(simp only[Ux,ah]at ho;done)|rfl
theorem Je{x:Option AV}{p:AV×Option A6}(e:val x=some p):p.2=none:=by
 obtain⟨v,_,rfl⟩:=aj.1 e;rfl
theorem map_none{α:Type}{x:Option α}{f:α→AV}{p:AV×Option A6}(e:x.map (fun a=>(f a,(none:Option A6)))=some p):p.2=none:=by
 obtain⟨v,_,rfl⟩:=aj.1 e;rfl
theorem bind_none{α:Type}{x:Option α}{f:α→M2}{p:AV×Option A6}(h: ∀a,f a=some p→p.2=none)(e:x.bind f=some p):p.2=none:=by
 obtain⟨v,_,e⟩:=ad.1 e;exact h v e
theorem aop_none{o:GI}(ho:Ux o=true){rho:AO→AV}{h:A6}{p:AV×Option A6}(e:BA tb cl rho h o=some p):p.2=none:=by
 cases o<;>first|(simp only[Ux,ah]at ho;done)|skip
 case mv=>simp only[BA,ae]at e;subst e;rfl
 case pick=>simp only[BA]at e;split at e<;>first|(cases e;rfl)|cases e
 case bld=>exact Je e
 case bll=>exact Je e
 case nilc=>simp only[BA]at e;split at e<;>first|(cases e;rfl)|cases e
 case bin=>exact Je e
 case eq=>exact Je e
 case un=>exact Je e
 case cvi=>simp only[BA]at e;split at e<;>first|(cases e;rfl)|cases e
 case cvid=>simp only[BA]at e;split at e<;>first|(cases e;rfl)|cases e
 case cvc=>simp only[BA]at e;split at e<;>first|(cases e;rfl)|cases e
 case mkf=>simp only[BA,ae]at e;subst e;rfl
 case sls=>simp only[BA]at e;split at e<;>first|exact map_none e|cases e
 case fa=>exact Je e
 case fld=>simp only[BA]at e;split at e<;>first|cases e|(split at e<;>first|exact Je e|cases e)
 case iaa=>exact bind_none (fun a e=>by split at e<;>first|exact Je e|cases e) e
 case ixa=>exact bind_none (fun a e=>by split at e<;>first|cases e|(split at e<;>first|exact Je e|cases e)) e
 case ixs=>exact bind_none (fun a e=>by split at e<;>first|cases e|(split at e<;>first|exact map_none e|cases e)) e
 case ext=>simp only[BA]at e;split at e<;>first|exact Je e|cases e
 case mkif=>simp only[BA,ae]at e;subst e;rfl
 case len=>exact map_none e
 case lens=>simp only[BA]at e;split at e<;>first|(cases e;rfl)|cases e
 case isni=>simp only[BA]at e;split at e<;>first|(cases e;rfl)|cases e
 case capn=>simp only[BA]at e;split at e<;>first|(cases e;rfl)|cases e
 case mnx=>simp only[BA]at e;split at e<;>first|cases e|(split at e<;>first|(cases e;rfl)|cases e)
theorem AaZ{o:GI}(ho:Ux o=true){rho:AO→AV}{h h':A6}{p:AV×Option A6}(e:BA tb cl rho h o=some p):BA tb cl rho h' o=some (p.1,none):=by
 rw[aop_blind ho (h':=h),e];have:=aop_none ho e;obtain⟨a,b⟩:=p;simp only at this;rw[this]
theorem iZ{d:Option Nat}{f:Fr}{v:AV}{o:GI}(h:vK d o=true):Alike tb (put f d v) f (opT o):=by
 intro t ht;cases d with
 |none=>rfl
 |some d=>
  have:=cb.1 h t ht;simp only[ck]at this;simp only[put,get];rw[t7 fun e=>by rw[e,mc]at this;cases this]
theorem Mt{d:Option Nat}{f:Fr}{v:AV}: ∀{ms:List bV},Tz d ms=true→ ∀m∈ms,Alike tb (put f d v) f (opT m.o)
 |[],_,m,hm=>by cases hm
 |q::r,h,m,hm=>by
  simp only[Tz,af]at h;rcases bm.1 hm with rfl|hm
  ·exact iZ h.1
  ·exact Mt h.2 m hm
def Keeps(tb:CV)(cl:Nat→List AV→A6→M2)(f:Fr)(tl:List A6)(m:bV):Prop:= ∀i h',i<m.c→tl[i]? =some h'→ ∃u,BA tb cl (eval tb f) h' m.o=some (m.v,u)∧u.getD h'=h'
theorem wU: ∀{ms:List bV} {m:bV},m∈ms→1<m.c→{m with c:=m.c-1}∈rV ms
 |q::r,m,hm,hc=>by
  rcases bm.1 hm with rfl|hm
  ·obtain⟨o,v,c⟩:=m
   match c,hc with
   |c+2,_=>simp[rV]
  ·have:=wU hm hc;simp only[rV]
   split
   ·exact this
   ·exact this
   ·exact a8 _ this
theorem addM_mem{N k lo hi:Nat}{o:GI}{v:AV}{ms:List bV}{m:bV}(h:m∈ms):m∈xR N k lo hi o v ms:=by
 simp only[xR];cases Ti N k lo hi o with
 |true=>exact h
 |false=>simp only[cond_false];simp[h]
theorem Aa1{N k lo hi:Nat}{d:Option Nat}{o:GI}(h:uV N k lo hi d o=true):lo=k∧hi≤N∧vK d o=true:=by
 simp only[uV,af]at h;exact⟨cm h.1,gz h.2.1,h.2.2⟩
open Classical in
theorem N9{N:Nat}: ∀{l:List Bh} {k:Nat} {ms:List bV} {es:List Eob} {w:List (Option (Nat×Nat))} {f:Fr} {h:A6} {f':Fr} {h':A6},Hn tb cl N k ms es l w f h (f',h')→
  ∃tl,IU tb cl l w f h=some (h::tl)∧(h::tl).getLast?=some h'∧k+tl.length=N∧(∀m∈ms,Keeps tb cl f tl m)∧ ∀(pre:List A6),pre.length=k→(∀e∈es,∀j g,e.lo≤j→pre[j]? =some g→load g e.ag e.n e.a=some e.v)→Le tb cl (pre++h::tl) l w k f=some f'
 |[],k,ms,es,w,f,h,f',h',e=>by
  cases w with
  |nil=>
   simp only[Hn,ch]at e;obtain⟨hk,rfl,rfl⟩:=e;exact⟨[],by simp[IU],rfl,by simpa using hk,fun m _ i h' _ hi=>by simp at hi,fun pre hp _=>by simp[Le,hp]⟩
  |cons=>simp[Hn]at e
 |⟨d,g,o⟩::l,k,ms,es,[],f,h,f',h',e=>by simp[Hn]at e
 |⟨d,gd,o⟩::l,k,ms,es,none::w,f,h,f',h',e=>by
  simp only[Hn]at e;rcases e with ⟨hwt,p,es',hp,hc1,hc2,hc3,e⟩|⟨hwt,rfl,e⟩
  rotate_left
  ·obtain⟨tl,h1,h2,h3,h4,h5⟩:=N9 e;refine⟨h::tl,?_,?_,by simp;omega,(fun m hm=>absurd hm (by simp)),fun pre hpre hes=> ?_⟩
   ·simp[IU,hwt,h1]
   ·simpa using h2
   ·have h6:=h5 (pre++[h]) (by simp[hpre]) (fun x hx=>absurd hx (by simp));simp only[br,gb]at h6;have g0:(pre++h::h::tl)[k]? =some h:=by rw[←hpre,bo (bc _),jz];rfl
    have g1:(pre++h::h::tl)[k+1]? =some h:=by rw[←hpre,bo (by omega),iq];rfl
    simp only[Le,hwt,aa,ah,ud,g0,g1,uc];exact h6
  obtain⟨tl,h1,h2,h3,h4,h5⟩:=N9 e;refine⟨p.2.getD h::tl,?_,?_,by simp;omega,?_,fun pre hpre hes=> ?_⟩
  ·simp[IU,hwt,hp,h1]
  ·simpa using h2
  ·intro m hm i h' hi hg;have he:=Mt (tb:=tb) (f:=f) (v:=p.1) hc1 m hm;rw[←LJ he];cases i with
   |zero=>
    simp only[bw,ae]at hg;subst hg;exact hc2 m hm (by omega)
   |succ i=>
    simp only[di]at hg;exact h4 _ (wU hm (by omega)) i h' (by simp only;omega) hg
  ·have h6:=h5 (pre++[h]) (by simp[hpre]) (fun x hx j g hj hg=>by
    rcases ef j pre.length with hlt|hge
    ·rw[bq hlt]at hg;rcases(hc3 x hx).1 with hx'|hx'
     ·exact hes x hx' j g hj hg
     ·omega
    ·rw[bo hge]at hg;have:j-pre.length=0:=by
      rcases ez (j-pre.length)with h|h
      ·exact h
      ·rw[dk (by simp;omega)]at hg;cases hg
     rw[this]at hg;simp only[bw,ae]at hg;subst hg;exact(hc3 x hx).2)
   simp only[br,gb]at h6;have g0:(pre++h::p.2.getD h::tl)[k]? =some h:=by rw[←hpre,bo (bc _),jz];rfl
   have g1:(pre++h::p.2.getD h::tl)[k+1]? =some (p.2.getD h):=by rw[←hpre,bo (by omega),iq];rfl
   simp only[Le,hwt,aa,uc,g0,hp,g1];exact h6
 |⟨d,gd,o⟩::l,k,ms,es,some (lo,hi)::w,f,h,f',h',e=>by
  simp only[Hn]at e;rcases e with ⟨hwt,p,hp,hu,hfr,e⟩|⟨hwt,hfr,e⟩
  rotate_left
  ·obtain⟨tl,h1,h2,h3,h4,h5⟩:=N9 e;refine⟨tl,?_,h2,h3,fun m hm i h' hi hg=> ?_,fun pre hpre hes=> ?_⟩
   ·simp[IU,hwt,h1]
   ·have he:=Mt (tb:=tb) (f:=f) (v:= .tup []) hfr m hm;rw[←LJ he];exact h4 m hm i h' hi hg
   ·have h6:=h5 pre hpre hes;simp only[Le,hwt,aa,ah,ud];exact h6
  rcases e with ⟨hpl,e⟩|⟨hhi0,⟨x,hx,t0,hxo,hxa,hxv,hxl⟩,e⟩
  ·obtain⟨tl,h1,h2,h3,h4,h5⟩:=N9 e;have hms: ∀m∈ms,Keeps tb cl f tl m:=fun m hm i h' hi hg=>by
    have he:=Mt (tb:=tb) (f:=f) (v:=p.1) hfr m hm;rw[←LJ he];exact h4 m (addM_mem hm) i h' hi hg
   refine⟨tl,?_,h2,h3,hms,fun pre hpre hes=> ?_⟩
   ·simp[IU,hwt,hp,hu,h1]
   ·have h6:=h5 pre hpre hes;have g0:(pre++h::tl)[k]? =some h:=by rw[←hpre,bo (bc _),jz];rfl
    have hlen:(pre++h::tl).length=N+1:=by simp[hpre];omega
    have hk: ∀j,lo≤j→j<lo+(hi+1-lo)→ ∃u,((pre++h::tl)[j]?).bind (fun h=>BA tb cl (eval tb f) h o)=some (p.1,u)∧some (u.getD ((pre++h::tl)[j]?.getD []))=(pre++h::tl)[j]? :=by
     intro j hj1 hj2;simp only[fu]at hpl;cases hP:Ti N k lo hi o with
     |true=>
      have hP':=hP;simp only[Ti,fu,af]at hP';rcases hP' with ⟨hlo,hhi⟩|⟨hb,hle⟩
      ·have hlo:=cm hlo;have hhi:=cm hhi;obtain rfl:j=k:=by omega
       exact⟨p.2,by rw[g0,aa,hp],by rw[g0];simp[hu]⟩
      ·have hle:=gz hle;have hj:j<(pre++h::tl).length:=by omega
       rw[ab hj];exact⟨none,by rw[aa];exact AaZ hb hp,rfl⟩
     |false=>
      have hL:uV N k lo hi d o=true:=hpl.resolve_left (by rw[hP];simp);obtain⟨hlo,hhi,hd⟩:=Aa1 hL;rcases ef k j with hkj|hkj
      ·have hm:(⟨o,p.1,hi-k⟩:bV)∈xR N k lo hi o p.1 ms:=by
        simp only[xR,hP,cond_false];simp
       have hj:j<(pre++h::tl).length:=by omega
       have hjt:(pre++h::tl)[j]? =tl[j-k-1]? :=by
        rw[bo (by omega),hpre,show j-k=(j-k-1)+1 by omega,di];rfl
       have hjl:j-k-1<tl.length:=by simp[hpre]at hlen;omega
       rw[hjt,ab hjl];have:=h4 _ hm (j-k-1) _ (by simp only;omega) (ab hjl);obtain⟨u,e1,e2⟩:=this;rw[LJ (iZ hd)]at e1;exact⟨u,by rw[aa];exact e1,ue some e2⟩
      ·obtain rfl:j=k:=by omega
       exact⟨p.2,by rw[g0,aa,hp],by rw[g0];simp[hu]⟩
    simp only[Le,hwt,aa,uc,g0,hp];rw[t6 (by
     rw[cb];intro j hj;rw[dx]at hj;exact ua (hk j hj.1 hj.2))]
    exact h6
  ·obtain⟨tl,h1,h2,h3,h4,h5⟩:=N9 e;have hms: ∀m∈ms,Keeps tb cl f tl m:=fun m hm i h' hi hg=>by
    have he:=Mt (tb:=tb) (f:=f) (v:=p.1) hfr m hm;rw[←LJ he];exact h4 m hm i h' hi hg
   refine⟨tl,?_,h2,h3,hms,fun pre hpre hes=> ?_⟩
   ·simp[IU,hwt,hp,hu,h1]
   ·have h6:=h5 pre hpre hes;have g0:(pre++h::tl)[k]? =some h:=by rw[←hpre,bo (bc _),jz];rfl
    have hk: ∀j,lo≤j→j<lo+(hi+1-lo)→ ∃u,((pre++h::tl)[j]?).bind (fun h=>BA tb cl (eval tb f) h o)=some (p.1,u)∧some (u.getD ((pre++h::tl)[j]?.getD []))=(pre++h::tl)[j]? :=by
     intro j hj1 hj2;rcases ef j k with hjk|hjk
     ·have hjp:j<pre.length:=by omega
      rw[bq hjp,ab hjp];have:=hes x hx j pre[j] (by omega) (ab hjp);refine⟨none,?_,rfl⟩;rw[aa,hxo,hxv];simp only[BA,eval,hxa,this,val,ak]
     ·obtain rfl:j=k:=by omega
      exact⟨p.2,by rw[g0,aa,hp],by rw[g0];simp[hu]⟩
    simp only[Le,hwt,aa,uc,g0,hp];rw[t6 (by
     rw[cb];intro j hj;rw[dx]at hj;exact ua (hk j hj.1 hj.2))]
    exact h6
theorem nY{l:List Bh}{w:List (Option (Nat×Nat))}{f:Fr}{h:A6}{n:Nat}{p:Fr×A6}(e:Hn tb cl n 0 [] [] l w f h p):
  Bp tb cl (.regd l w) f h=some (.normal,p.1,p.2):=by
 obtain⟨tl,h1,h2,h3,h4,h5⟩:=N9 (f':=p.1) (h':=p.2) e;have h6:=h5 [] rfl (fun e he=>by cases he);simp only[dt]at h6;simp only[Bp,h1,aa,List.tail_cons,h6,h2,ak]
end
structure Ob where
 o:GI
 d:Nat
 φ:AY
 c:Nat
def rW:List Ob→List Ob
 |[]=>[]
 |m::r=>match m.c with
  |0=>rW r
  |1=>rW r
  |c+2=>{m with c:=c+1}::rW r
def PD(d:Option Nat):List Ob→Bool
 |[]=>true
 |m::r=>(vK d m.o&&match d with|some d=> !Nat.beq d m.d|none=>true)&&PD d r
def T.Uni(t:T):Prop:= ∀{P Q:Nat→Prop} {H G:A6} {cs ds:List AV} {x:t.α},t.R P H cs x→t.R Q G ds x→cs=ds
theorem XK{α:Type}{c:α→AV}{z:α}{hs hm}:(Wi α c z hs hm).Uni:=fun h g=>h.trans g.symm
theorem BN{k:IntKind}:(am k).Uni:=XK
theorem FM:bi.Uni:=XK
theorem TY:bx.Uni:=XK
theorem I6:Au.Uni:=XK
theorem T.Uni.prod{a b:T}(h:a.Uni)(g:b.Uni):(fj a b).Uni:=by
 rintro P Q H G cs ds x ⟨c,d,e,h1,h2⟩ ⟨c',d',e',h1',h2'⟩;rw[e,e',h h1 h1',g h2 h2']
theorem T.Uni.iso{t:T}{β:Type}{f:β→t.α}{g:t.α→β}{hfg: ∀y,f (g y)=y}(h:t.Uni):(nc t β f g hfg).Uni:=fun r r'=>h r r'
theorem CM.uni{t:T}(h:t.Uni){P Q:Nat→Prop}{H G:A6}: ∀{c d:List (List AV)} {x:List t.α},CM t P H c x→CM t Q G d x→c=d
 |[],[],[],_,_=>rfl
 |_::_,_::_,_::_,h1,h2=>by rw[h h1.1 h2.1,CM.uni h h1.2 h2.2]
 |[],_::_,[],_,h2=>h2.elim
 |_::_,_,[],h1,_=>h1.elim
 |[],_,_::_,h1,_=>h1.elim
 |_::_,[],_::_,_,h2=>h2.elim
theorem T.Uni.arr{n:Nat}{t:T}(h:t.Uni):(aw n t).Uni:=by
 rintro P Q H G cs ds x ⟨c,e,h1⟩ ⟨c',e',h1'⟩;rw[e,e',h1.uni h h1']
theorem T.Uni.V{t:T}(h:t.Uni){P Q:Nat→Prop}{H G:A6}{v w:AV}{x:t.α}(r:t.V P H v x)(r':t.V Q G w x):v=w:=by
 rcases r with ⟨ha,cs,rfl,r⟩|⟨ha,r⟩
 ·rcases r' with ⟨_,ds,rfl,r'⟩|⟨hb,_⟩
  ·rw[h r r']
  ·rw[ha]at hb;cases hb
 ·rcases r' with ⟨hb,_⟩|⟨_,r'⟩
  ·rw[ha]at hb;cases hb
  ·have:=h r r';simpa using this
def UniL:List (Σ t:T,t.α)→Prop
 |[]=>True
 |p::r=>p.1.Uni∧UniL r
theorem UniL.eq{P Q:Nat→Prop}{H G:A6}: ∀{l:List (Σ t:T,t.α)} {v w:List AV},UniL l→XJ P H v l→XJ Q G w l→v=w
 |[],[],[],_,_,_=>rfl
 |_::_,_::_,_::_,h,r,r'=>by rw[T.Uni.V h.1 r.1 r'.1,UniL.eq h.2 r.2 r'.2]
 |[],_::_,_,_,r,_=>r.elim
 |[],[],_::_,_,_,r=>r.elim
 |_::_,[],_,_,r,_=>r.elim
 |_::_,_::_,[],_,_,r=>r.elim
def AY.Uni:AY→Prop
 | .val t _=>t.Uni
 | .tup l=>UniL l
 | .own _=>True
 | .cp _ _=>True
 | .ep _ _ _=>True
 | .oc _ _ _ _=>True
 | .con _=>True
 | .kv _=>True
 | .fnv _ _ _=>True
 |_=>False
theorem AY.Uni.eq{φ:AY}(h:φ.Uni){rv:Nat→AV}{ss:Ss}{P Q:Nat→Prop}{H G:A6}{v w:AV}(r:FR rv ss P H φ v)(r':FR rv ss Q G φ w):v=w:=by
 cases φ<;>simp only[AY.Uni]at h
 case val t x=>exact T.Uni.V h r r'
 case tup l=>
  obtain⟨vs,e,h1⟩:=r;obtain⟨ws,e',h2⟩:=r';rw[e,e',UniL.eq h h1 h2]
 case own j=>exact r.2.trans r'.2.symm
 case cp j o=>
  obtain⟨_,id,e,rfl⟩:=r;obtain⟨_,id',e',rfl⟩:=r';rw[e]at e';cases e';rfl
 case ep j i o=>
  obtain⟨_,id,n,e,_,rfl⟩:=r;obtain⟨_,id',n',e',_,rfl⟩:=r';rw[e]at e';cases e';rfl
 case oc j o s n=>
  obtain⟨_,id,e,rfl⟩:=r;obtain⟨_,id',e',rfl⟩:=r';rw[e]at e';cases e';rfl
 case con c=>exact r.1.trans r'.1.symm
 case kv j=>exact r.2.trans r'.2.symm
 case fnv f js ks=>exact r.2.trans r'.2.symm
inductive bU(tb:CV)(Γ:Cx):List Ob→Prop where
 |nil:bU tb Γ []
 |cons {o:GI} {d c:Nat} {φ:AY} {l:List Ob} (h:EG tb Γ o (some ()) fun _=>φ) (hd:C4 tb Γ (.t d) φ) (hu:φ.Uni) (r:bU tb Γ l):bU tb Γ (⟨o,d,φ,c⟩::l)
inductive yE(f:Fr):List Ob→List bV→Prop where
 |nil:yE f [] []
 |cons {o:GI} {d c:Nat} {φ:AY} {v:AV} {l:List Ob} {ms:List bV} (h:get f d=v) (r:yE f l ms):yE f (⟨o,d,φ,c⟩::l) (⟨o,v,c⟩::ms)
theorem yE.dec{f:Fr}: ∀{l:List Ob} {ms:List bV},yE f l ms→yE f (rW l) (rV ms)
 |_,_, .nil=> .nil
 |_,_, .cons (c:=c) h r=>by
  match c with
  |0=>exact r.dec
  |1=>exact r.dec
  |c+2=>exact .cons h r.dec
theorem yE.fresh{d:Option Nat}{f:Fr}: ∀{l:List Ob} {ms:List bV},yE f l ms→PD d l=true→Tz d ms=true
 |_,_, .nil,_=>rfl
 |_,_, .cons h r,e=>by
  simp only[PD,af]at e;simp only[Tz,af];exact⟨e.1.1,r.fresh e.2⟩
theorem yE.put{d:Option Nat}{f:Fr}{w:AV}: ∀{l:List Ob} {ms:List bV},yE f l ms→PD d l=true→yE (put f d w) l ms
 |_,_, .nil,_=> .nil
 |_,_, .cons h r,e=>by
  simp only[PD,af]at e;refine .cons ?_ (r.put e.2);cases d with
  |none=>exact h
  |some d=>
   have:=e.1.2;simp only[ck]at this;simp only[Am.put,get];rw[t7 fun e=>by rw[e,mc]at this;cases this];exact h
theorem bU.spec{tb:CV}{Γ:Cx}{E:QS}{rv:Nat→AV}{fp:Fp}{f:Fr}{H:A6}(I:B5 E Γ rv fp f H): ∀{l:List Ob} {ms:List bV},bU tb Γ l→yE f l ms→ ∀m∈ms,0<m.c→ ∃u,BA tb (C3 tb) (eval tb f) H m.o=some (m.v,u)∧u.getD H=H
 |_,_, .nil, .nil,m,hm,_=>by cases hm
 |_,_, .cons h hd hu r, .cons h' r',m,hm,hc=>by
  rcases bm.1 hm with rfl|hm
  ·obtain⟨v,u,h1,h2,h3⟩:=h E rv fp f H I () rfl;have:=hu.eq h3 (hd E rv fp f H I);subst this;exact⟨u,by rw[h1,←h'];rfl,h2⟩
  ·exact bU.spec I r r' m hm hc
structure Cb where
 ag:Bool
 n:Nat
 t:Nat
 off:Nat
 lo:Nat
 u:T
 x:u.α
def T0(d:Option Nat):List Cb→Bool
 |[]=>true
 |m::r=>(match d with|some d=> !Nat.beq d m.t|none=>true)&&T0 d r
inductive CR(f:Fr):List Cb→List Eob→Prop where
 |nil:CR f [] []
 |cons {ag:Bool} {n t off lo id o:Nat} {u:T} {x:u.α} {v a:AV} {l:List Cb} {es:List Eob} {P:Nat→Prop} {H:A6} (h0:get f t= .ptr id o) (ha:a= .ptr id (o+off)) (h:u.V P H v x) (r:CR f l es):
   CR f (⟨ag,n,t,off,lo,u,x⟩::l) (⟨ag,n,a,v,lo⟩::es)
theorem CR.put{d:Option Nat}{f:Fr}{w:AV}: ∀{l:List Cb} {es:List Eob},CR f l es→T0 d l=true→CR (put f d w) l es
 |_,_, .nil,_=> .nil
 |_,_, .cons h0 ha h r,e=>by
  simp only[T0,af]at e;refine .cons ?_ ha h (r.put e.2);cases d with
  |none=>exact h0
  |some d=>
   have:=e.1;simp only[ck]at this;simp only[Am.put,get];rw[t7 fun e=>by rw[e,mc]at this;cases this];exact h0
theorem CR.find{f:Fr}: ∀{l:List Cb} {es:List Eob} {i:Nat} {c:Cb},CR f l es→l[i]? =some c→ ∃e∈es,e.ag=c.ag∧e.n=c.n∧e.lo=c.lo∧(∃id o,get f c.t= .ptr id o∧e.a= .ptr id (o+c.off))∧ ∃P H,c.u.V P H e.v c.x
 |_,_,i,c, .nil,h=>by simp at h
 |_,_,0,c, .cons h0 ha h r,hc=>by
  simp only[bw,ae]at hc;subst hc;exact⟨_,bg,rfl,rfl,rfl,⟨_,_,h0,ha⟩,_,_,h⟩
 |_,_,i+1,c, .cons h0 ha h r,hc=>by
  simp only[di]at hc;obtain⟨e,he,g⟩:=r.find hc;exact⟨e,a8 _ he,g⟩
def Zm(Γ:Cx)(c:Cb):Prop:= ∃j o ps N s y o',BP Γ.ts c.t=some (.cp j o)∧AQ Γ.ss j=some (.cells ps)∧Jv ps (o+c.off)=some (N, .val s y,o')∧ ∃F:AN s c.u o',F.get y=c.x∧c.ag=c.u.agg∧c.n=c.u.sz
theorem OE{Γ:Cx}{ag:Bool}{n t off lo j o N o':Nat}{ps:List (Nat×AY)}{s u:T}{y:s.α}(F:AN s u o')(h1:BP Γ.ts t=some (.cp j o))(h2:AQ Γ.ss j=some (.cells ps))(h3:Jv ps (o+off)=some (N, .val s y,o'))(h4:ag=u.agg)(h5:n=u.sz):Zm Γ ⟨ag,n,t,off,lo,u,F.get y⟩:=
 ⟨j,o,ps,N,s,y,o',h1,h2,h3,F,rfl,h4,h5⟩
theorem Zm.spec{Γ:Cx}{c:Cb}{E:QS}{rv:Nat→AV}{fp:Fp}{f:Fr}{H:A6}(h:Zm Γ c)(R:B5 E Γ rv fp f H): ∃id o v,get f c.t= .ptr id o∧load H c.ag c.n (.ptr id (o+c.off))=some v∧c.u.V (Pf E Γ.ss fp H) H v c.x:=by
 obtain⟨j,o,ps,N,s,y,o',h1,hj,hp,F,hx,hag,hn⟩:=h;obtain⟨l,id,e,hv⟩:=R.temps _ _ h1;obtain⟨cs,h0,h2,h3⟩:=GW R hj e;obtain⟨b',c',e0,e1,e2,e3,e4,e5,_⟩:=FQ h3 hp;have hle:=F.le;have hl:=s.len e4;have hr:=F.getR e4;rw[←e5 o' c.u.sz (by omega),←e1]at hr;obtain⟨v,g1,g2⟩:=qm hr;refine⟨id,o,v,hv,?_,by rw[←hx];exact g2⟩;rw[hag,hn];simp only[Am.load,place,h2,ak,aa,t6 (show o+c.off+c.u.sz≤cs.length by omega),g1]
inductive LO(Γ:Cx)(k:Nat)(C:List Cb):List Cb→Prop where
 |nil:LO Γ k C []
 |new {c:Cb} {l:List Cb} (hk:c.lo=k) (h:Zm Γ c) (r:LO Γ k C l):LO Γ k C (c::l)
 |old {c:Cb} {l:List Cb} (i:Nat) (hi:C[i]? =some c) (hu:c.u.Uni) (h:Zm Γ c) (r:LO Γ k C l):LO Γ k C (c::l)
theorem LO.spec{Γ:Cx}{k:Nat}{C:List Cb}{es:List Eob}{E:QS}{rv:Nat→AV}{fp:Fp}{f:Fr}{H:A6}(R:B5 E Γ rv fp f H)(hC:CR f C es): ∀{l:List Cb},LO Γ k C l→ ∃es',CR f l es'∧ ∀e∈es',(e∈es∨e.lo=k)∧load H e.ag e.n e.a=some e.v
 |_, .nil=>⟨[], .nil,fun _ h=>by cases h⟩
 |_, .new (c:=c) hk h r=>by
  obtain⟨es',h1,h2⟩:=r.spec R hC;obtain⟨id,o,v,g1,g2,g3⟩:=h.spec R;refine⟨⟨c.ag,c.n, .ptr id (o+c.off),v,c.lo⟩::es', .cons g1 rfl g3 h1,fun e he=> ?_⟩;rcases bm.1 he with rfl|he
  ·exact⟨.inr hk,g2⟩
  ·exact h2 e he
 |_, .old (c:=c) i hi hu h r=>by
  obtain⟨es',h1,h2⟩:=r.spec R hC;obtain⟨id,o,v,g1,g2,g3⟩:=h.spec R;obtain⟨e,he,e1,e2,e3,⟨id',o',e4,e5⟩,P,H',e6⟩:=hC.find hi;have hv:v=e.v:=hu.V g3 e6;rw[g1]at e4;cases e4;refine⟨⟨c.ag,c.n, .ptr id (o+c.off),v,c.lo⟩::es', .cons g1 rfl g3 h1,fun x hx=> ?_⟩;rcases bm.1 hx with rfl|hx
  ·refine⟨.inl ?_,g2⟩;obtain⟨ag,n,a,v',lo⟩:=e;simp only at e1 e2 e3 e5 hv;subst e1 e2 e3 e5 hv;exact he
  ·exact h2 x hx
structure A0(tb:CV)(Γ:Cx)(N k:Nat)(B:List Ob)(C:List Cb)(l:List Bh)(w:List (Option (Nat×Nat)))(ks:List Kf){ρ:Type}(Q:OC ρ) where
 m:Option ρ
 ok: ∀E f H,Rel E Γ f H→ ∀ms,yE f B ms→ ∀es,CR f C es→ ∀r,m=some r→ ∃p e f' H',Hn tb (C3 tb) N k ms es l w f H p∧I9 tb ks (.normal,p.1,p.2)=some (e,f',H')∧Q E r e f' H'
section
variable{tb:CV}{Γ:Cx}{ks:List Kf}{ρ:Type}{Q:OC ρ}{w:List (Option (Nat×Nat))}{N k:Nat}{B:List Ob}{C C':List Cb}
def Aa.regd{l:List Bh}(n:Nat)(s:A0 tb Γ n 0 [] [] l w ks Q):Aa tb Γ (.regd l w) ks Q:=
 ⟨s.m,fun E f H R r hr=>by
  obtain⟨p,e,f',H',h1,h2,h3⟩:=s.ok E f H R [] .nil [] .nil r hr;exact⟨e,f',H',by rw[nY h1];exact h2,h3⟩⟩
def BC(s:Aa tb Γ (rg false []) ks Q):A0 tb Γ N N B C [] [] ks Q:=
 ⟨s.m,fun E f H R ms _ es _ r hr=>by
  obtain⟨e,f',H',h1,h2⟩:=s.ok E f H R r hr;rw[DL]at h1;exact⟨(f,H),e,f',H',⟨rfl,rfl⟩,h1,h2⟩⟩
def A0.turn{l:List Bh}{Γ':Cx}(h: ∀E f H,Rel E Γ f H→Rel E Γ' f H)(s:A0 tb Γ' N k B C l w ks Q):A0 tb Γ N k B C l w ks Q:=
 ⟨s.m,fun E f H R ms hms es hes r hr=>s.ok E f H (h E f H R) ms hms es hes r hr⟩
def A0.frzRow{l:List Bh}(j:Nat){t:T}{g:GS t.α}(h:AQ Γ.ss j=some (.row t g))(hn:kh j Ld=true)(s:A0 tb (Γ.turn j (rowF t g)) N k B C l w ks Q):A0 tb Γ N k B C l w ks Q:=
 s.turn fun _ _ _ ⟨rv,fp,I⟩=>⟨rv,fp,I.frzRow h hn⟩
variable{o:GI}{l:List Bh}{y:Nat×Nat}
def lJ(N k:Nat)(B:List Ob)(C:List Cb)(y:Nat×Nat)(d:Option Nat)(o:GI):Bool:=Ti N k y.1 y.2 o&&(PD d B&&T0 d C)
theorem stepD{cl:Nat→List AV→A6→M2}{d:Option Nat}{ms:List bV}{es:List Eob}{f:Fr}{H:A6}{v:AV}{u:Option A6}{p:Fr×A6}(hq:lJ N k B C y d o=true)(hms:yE f B ms)(h1:BA tb cl (eval tb f) H o=some (v,u))(h2:u.getD H=H)
  (g:Hn tb cl N k ms es l w (put f d v) H p):Hn tb cl N k ms es (⟨d,none,o⟩::l) (some y::w) f H p:=by
 obtain⟨lo,hi⟩:=y;simp only[lJ,af]at hq;refine .inl ⟨rfl,(v,u),h1,h2,hms.fresh hq.2.1, .inl ⟨by rw[hq.1];rfl,?_⟩⟩;simp only[xR,hq.1,cond_true];exact g
theorem iH{d:Option Nat}(hq:lJ N k B C y d o=true):PD d B=true∧T0 d C=true:=by
 simp only[lJ,af]at hq;exact hq.2
def xE(B:List Ob)(C':List Cb)(d:Option Nat):Bool:=PD d B&&T0 d C'
theorem stepW{Γ':Cx}{E:QS}{rv rv':Nat→AV}{fp fp':Fp}{d:Option Nat}{ms:List bV}{es:List Eob}{f:Fr}{H:A6}{v:AV}{u:Option A6}(hq:xE B C' d=true)(hb:bU tb Γ' B)(hc:LO Γ k C C')(hms:yE f B ms)(hes:CR f C es)(I0:B5 E Γ rv fp f H)(h1:BA tb (C3 tb) (eval tb f) H o=some (v,u))(I:B5 E Γ' rv' fp' (put f d v) (u.getD H)):
  ∃es',CR (put f d v) C' es'∧ ∀p,Hn tb (C3 tb) N (k+1) (rV ms) es' l w (put f d v) (u.getD H) p→Hn tb (C3 tb) N k ms es (⟨d,none,o⟩::l) (none::w) f H p:=by
 simp only[xE,af]at hq;obtain⟨es',g1,g2⟩:=hc.spec I0 hes;exact⟨es',g1.put hq.2,fun p g=> .inl ⟨rfl,(v,u),es',h1,hms.fresh hq.1,hb.spec I (hms.put hq.1),g2,g⟩⟩
def A0.op{d:Nat}{β:Type}{a:Option β}{φ:β→AY}(hq:lJ N k B C y (some d) o=true)(h:EG tb Γ o a φ)(s:(b:β)→A0 tb (Γ.push d (φ b)) N k B C l w ks Q):A0 tb Γ N k B C (⟨some d,none,o⟩::l) (some y::w) ks Q:=
 ⟨a.bind fun b=>(s b).m,fun E f H ⟨rv,fp,I⟩ ms hms es hes r hr=>by
  obtain⟨b,hb,hr⟩:=ad.1 hr;obtain⟨v,u,h1,h2,h3⟩:=h E rv fp f H I b hb;obtain⟨p,e,f',H',g,g'⟩:=(s b).ok E (put f (some d) v) H ⟨rv,fp,I.push h3⟩ ms (hms.put (iH hq).1) es (hes.put (iH hq).2) r hr;exact⟨p,e,f',H',stepD hq hms h1 h2 g,g'⟩⟩
def Ax{d:Nat}{φ:AY}(hq:lJ N k B C y (some d) o=true)(h:EG tb Γ o (some ()) fun _=>φ)(s:A0 tb (Γ.push d φ) N k B C l w ks Q):A0 tb Γ N k B C (⟨some d,none,o⟩::l) (some y::w) ks Q:=
 ⟨s.m,(A0.op hq h fun _=>s).ok⟩
def Ca{d:Nat}{t:T}{x:t.α}(hq:lJ N k B C y (some d) o=true)(h:EG tb Γ o (some ()) fun _=> .val t x)(s:(y:t.α)→A0 tb (Γ.push d (.val t y)) N k B C l w ks Q):A0 tb Γ N k B C (⟨some d,none,o⟩::l) (some y::w) ks Q:=
 Ax hq h (s x)
def chkL(N k:Nat)(B:List Ob)(C:List Cb)(lo hi d:Nat)(o:GI):Bool:= !Ti N k lo hi o&&(uV N k lo hi (some d) o&&(PD (some d) B&&T0 (some d) C))
def WO{α γ:Type}(a:Option α)(F:(b:α)→a=some b→Option γ):Option γ:=
 match a,F with
 |some b,F=>F b rfl
 |none,_=>none
theorem zV{α γ:Type}{a:Option α}{F:(b:α)→a=some b→Option γ}{r:γ}(h:WO a F=some r): ∃b e,F b e=some r:=by
 cases a with
 |none=>cases h
 |some b=>exact⟨b,rfl,h⟩
theorem Qw{α γ:Type}{a:Option α}{f:α→Option γ}:(WO a fun b _=>f b)=a.bind f:=by cases a<;>rfl
theorem EG.at{Γ:Cx}{o:GI}{β:Type}{a:Option β}{φ:β→AY}{b:β}(h:EG tb Γ o a φ)(e:a=some b):EG tb Γ o (some ()) fun _=>φ b:=fun E rv fp f H I _ _=>h E rv fp f H I b e
def OA{d lo hi:Nat}{β:Type}{a:Option β}{φ:β→AY}(hq:chkL N k B C lo hi d o=true)(h:EG tb Γ o a φ)
  (s:(b:β)→a=some b→A0 tb (Γ.push d (φ b)) N k (⟨o,d,φ b,hi-k⟩::B) C l w ks Q):A0 tb Γ N k B C (⟨some d,none,o⟩::l) (some (lo,hi)::w) ks Q:=
 ⟨WO a fun b e=>(s b e).m,fun E f H ⟨rv,fp,I⟩ ms hms es hes r hr=>by
  obtain⟨b,hb,hr⟩:=zV hr;obtain⟨v,u',h1,h2,h3⟩:=h E rv fp f H I b hb;simp only[chkL,af,ck]at hq;obtain⟨p,e,f',H',h4,h5⟩:=(s b hb).ok E (put f (some d) v) H ⟨rv,fp,I.push h3⟩ (⟨o,v,hi-k⟩::ms) (.cons (by simp[put,get]) (hms.put hq.2.2.1)) es (hes.put hq.2.2.2) r hr;refine⟨p,e,f',H', .inl ⟨rfl,(v,u'),h1,h2,hms.fresh hq.2.2.1, .inl ⟨by rw[hq.2.1];simp,?_⟩⟩,h5⟩;simp only[xR,hq.1,cond_false];exact h4⟩
def Kh{d lo hi:Nat}{φ:AY}(hq:chkL N k B C lo hi d o=true)(h:EG tb Γ o (some ()) fun _=>φ)
  (s:A0 tb (Γ.push d φ) N k (⟨o,d,φ,hi-k⟩::B) C l w ks Q):A0 tb Γ N k B C (⟨some d,none,o⟩::l) (some (lo,hi)::w) ks Q:=
 ⟨s.m,(OA hq h fun _ _=>s).ok⟩
def DE{d n t lo hi t0 off lo0:Nat}{ag:Bool}{u:T}{x:u.α}(i:Nat){j o o0:Nat}(hi0:C[i]? =some ⟨ag,n,t0,off,lo0,u,x⟩)(ht:BP Γ.ts t=some (.cp j o))(ht0:BP Γ.ts t0=some (.cp j o0))(ho:o=o0+off)
  (hq:(fx hi k&&(ou lo0 lo&&(PD (some d) B&&T0 (some d) C)))=true) (hu:u.Uni) (h:EG tb Γ (.ld ag n (.t t)) (some ()) fun _=> .val u x)
  (s:A0 tb (Γ.push d (.val u x)) N k B C l w ks Q):A0 tb Γ N k B C (⟨some d,none, .ld ag n (.t t)⟩::l) (some (lo,hi)::w) ks Q:=
 ⟨s.m,fun E f H ⟨rv,fp,I⟩ ms hms es hes r hr=>by
  obtain⟨v,u',h1,h2,h3⟩:=h E rv fp f H I () rfl;simp only[af]at hq;obtain⟨p,e,f',H',h4,h5⟩:=s.ok E (put f (some d) v) H ⟨rv,fp,I.push h3⟩ ms (hms.put hq.2.2.1) es (hes.put hq.2.2.2) r hr;obtain⟨x',hx,e1,e2,e3,⟨id,o',e4,e5⟩,P,H0,e6⟩:=hes.find hi0;have hv:v=x'.v:=hu.V h3 e6;obtain⟨_,id1,g1,g2⟩:=I.temps _ _ ht;obtain⟨_,id2,g3,g4⟩:=I.temps _ _ ht0;rw[g1]at g3;cases g3;have e4':get f t0= .ptr id o':=e4;rw[g4]at e4';cases e4';refine⟨p,e,f',H', .inl ⟨rfl,(v,u'),h1,h2,hms.fresh hq.2.2.1, .inr ⟨cm hq.1,⟨x',hx,t,?_,?_,hv,?_⟩,h4⟩⟩,h5⟩
  ·rw[e1,e2]
  ·rw[g2,e5,ho]
  ·have e3':x'.lo=lo0:=e3;rw[e3'];exact gz hq.2.1⟩
def C2{d:Option Nat}{β:Type}{a:Option β}{Γ':β→Cx}(hq:xE B C' d=true)(hb: ∀b,bU tb (Γ' b) B)(hc:LO Γ k C C')(h:UP tb Γ d o a Γ')(s:(b:β)→A0 tb (Γ' b) N (k+1) (rW B) C' l w ks Q):A0 tb Γ N k B C (⟨d,none,o⟩::l) (none::w) ks Q:=
 ⟨a.bind fun b=>(s b).m,fun E f H ⟨rv,fp,I⟩ ms hms es hes r hr=>by
  obtain⟨b,hb',hr⟩:=ad.1 hr;obtain⟨v,u,h1,rv',fp',h3⟩:=h E rv fp f H I b hb';obtain⟨es',g1,g2⟩:=stepW (l:=l) (w:=w) (N:=N) hq (hb b) hc hms hes I h1 h3;have hq':=hq;simp only[xE,af]at hq';obtain⟨p,e,f',H',g,g'⟩:=(s b).ok E _ _ ⟨rv',fp',h3⟩ _ (hms.put hq'.1).dec _ g1 r hr;exact⟨p,e,f',H',g2 p g,g'⟩⟩
def SimDW.op{d:Nat}{β:Type}{a:Option β}{φ:β→AY}(hq:xE B C' (some d)=true)(hb: ∀b,bU tb (Γ.push d (φ b)) B)(hc:LO Γ k C C')(h:EG tb Γ o a φ)(s:(b:β)→A0 tb (Γ.push d (φ b)) N (k+1) (rW B) C' l w ks Q):A0 tb Γ N k B C (⟨some d,none,o⟩::l) (none::w) ks Q:=
 C2 hq hb hc (a:=a) (Γ':=fun b=>Γ.push d (φ b)) (fun E rv fp f H I b hb'=>by
  obtain⟨v,u,h1,h2,h3⟩:=h E rv fp f H I b hb';exact⟨v,u,h1,rv,fp,by rw[h2];exact I.push h3⟩) s
end
end
section
def PM(tB nne:Nat):Cv:=⟨false,1,20,[],
 (.seq (rg false [⟨some 2,none, .mv (.t 0)⟩,⟨some 3,none, .nilc (.t 2)⟩,⟨some 4,none, .fa 0 (.t 3)⟩,⟨some 5,none, .ld false 1 (.t 4)⟩,⟨some 6,none, .eq false .p (.t 5) (.k (.nilp))⟩])
 (.cond (.t 6)
  (rg false [⟨some 7,none, .mv (.t 0)⟩,⟨some 8,none, .mv (.t 0)⟩,⟨some 9,none, .cvp (.t 8)⟩,⟨some 10,none, .call nne [(.t 9)]⟩,⟨some 11,none, .cvu tB 2 (.t 10)⟩,⟨some 12,none, .nilc (.t 7)⟩,⟨some 13,none, .fa 0 (.t 12)⟩,⟨none,none, .st 1 (.t 13) (.t 11)⟩])
  (.seq (rg false [⟨some 14,none, .mv (.t 0)⟩,⟨some 15,none, .nilc (.t 14)⟩,⟨some 16,none, .fa 0 (.t 15)⟩,⟨some 17,none, .ld false 1 (.t 16)⟩,⟨some 18,none, .mv (.t 0)⟩,⟨some 19,none, .eqp true (.t 17) (.t 18)⟩])
  (.cond (.t 19)
  .stop
  .skip))))⟩
def cT(te ncc:Nat):Cv:=⟨false,2,19,[.tmp 4, .tmp 5],
 (.seq (rg false [⟨some 4,none, .mv (.k (.i .i64 0))⟩,⟨some 5,none, .mv (.k (.nili))⟩])
 (.seq (rg false [⟨some 6,none, .mv (.t 0)⟩,⟨some 7,none, .call ncc [(.t 6)]⟩])
 (.seq (rg false [⟨some 8,none, .mv (.t 0)⟩,⟨some 9,none, .mv (.t 0)⟩,⟨some 10,none, .nilc (.t 9)⟩,⟨some 11,none, .fa 1 (.t 10)⟩,⟨some 12,none, .ld false 1 (.t 11)⟩,⟨some 13,none, .mv (.t 1)⟩,⟨some 14,none, .app te 1 1 (.t 12) (.t 13)⟩,⟨some 15,none, .nilc (.t 8)⟩,⟨some 16,none, .fa 1 (.t 15)⟩,⟨none,none, .st 1 (.t 16) (.t 14)⟩])
 (.seq (rg false [⟨some 17,none, .mv (.t 1)⟩,⟨some 18,none, .lens (.t 17)⟩,⟨some 4,none, .mv (.t 18)⟩,⟨some 5,none, .mv (.k (.nili))⟩])
 .ret))))⟩
def cV(te ncc:Nat):Cv:=⟨false,2,17,[.tmp 4],
 (.seq (rg false [⟨some 4,none, .mv (.k (.nili))⟩])
 (.seq (rg false [⟨some 5,none, .mv (.t 0)⟩,⟨some 6,none, .call ncc [(.t 5)]⟩])
 (.seq (rg false [⟨some 7,none, .mv (.t 0)⟩,⟨some 8,none, .mv (.t 0)⟩,⟨some 9,none, .nilc (.t 8)⟩,⟨some 10,none, .fa 1 (.t 9)⟩,⟨some 11,none, .ld false 1 (.t 10)⟩,⟨some 12,none, .mv (.t 1)⟩,⟨some 13,none, .bll 1 (az 1 bi.zc) [(0,(.t 12))]⟩,⟨some 14,none, .app te 1 1 (.t 11) (.t 13)⟩,⟨some 15,none, .nilc (.t 7)⟩,⟨some 16,none, .fa 1 (.t 15)⟩,⟨none,none, .st 1 (.t 16) (.t 14)⟩])
 (.seq (rg false [⟨some 4,none, .mv (.k (.nili))⟩])
 .ret))))⟩
def Wf(te:Nat):Cv:=⟨false,1,14,[.tmp 2],
 (.seq (rg false [⟨some 2,none, .mv (.k (.s []))⟩])
 (.seq (.regd [⟨some 3,none, .mv (.t 0)⟩,⟨some 4,none, .nilc (.t 3)⟩,⟨some 5,none, .fa 1 (.t 4)⟩,⟨some 6,none, .ld false 1 (.t 5)⟩,⟨some 7,none, .usd (.t 6)⟩,⟨some 8,none, .mv (.t 0)⟩,⟨some 9,none, .nilc (.t 8)⟩,⟨some 10,none, .fa 1 (.t 9)⟩,⟨some 11,none, .ld false 1 (.t 10)⟩,⟨some 12,none, .len (.t 11)⟩,⟨some 13,none, .ust te (.t 7) (.t 12)⟩,⟨some 2,none, .mv (.t 13)⟩] [some (0,0),some (0,0),some (0,0),some (0,0),some (0,0),some (0,0),some (0,0),some (0,0),some (0,0),some (0,0),none,some (1,1)])
 .ret))⟩
section
variable{tb:CV}{tB te ncc nne nws nwb nbs:Nat}{h:A6}{id:Nat}{a b:AV}
theorem Hy{cs:List AV}{l:Option Nat}(hh:h[id]? =some (.cells l cs)):BR h id=some cs∧EQ h id=l:=⟨by simp only[BR,hh],by simp only[EQ,hh]⟩
theorem tT{els:List (List AV)}{l:Option Nat}{fz:Bool}{sz:Nat}(hh:h[id]? =some (.row l fz sz els)):rowAt h id=some (fz,sz,els)∧EQ h id=l:=⟨by simp only[rowAt,hh],by simp only[EQ,hh]⟩
theorem NX(fn:Bool)(n:Nat)(h:A6)(hn:h.length=n)(vs:List AV)(hv:Bv vs=0): ∃u,Yx fn n h vs=(Gg vs,some u)∧u=h:=by
 have h1:rB h n vs=some vs:=by
  unfold rB;exact Ru (by omega)
 have h2:h.take n=h:=by rw[←hn];exact f9
 cases fn
 ·simp only[Yx,Z9,h1,h2]
  split<;>exact⟨_,rfl,rfl⟩
 ·exact⟨_,rfl,rfl⟩
theorem Yw(n:Nat)(h:A6)(hn: ¬C7 (h.take n)≤n)(vs:List AV)(hv:Bv vs=0)(fn:Bool):Yx fn n h vs=(Gg vs,some h):=by
 have h1:rB h n vs=some vs:=by
  unfold rB;exact Ru (by omega)
 cases fn
 ·simp only[Yx,Z9,h1,t7 hn]
 ·rfl
theorem cJ(hf:tb.prim ncc=none∧tb.fns ncc=some (PM tB nne))(hne:tb.prim nne=some Si)(hh:h[id]? =some (.cells (some tB) [a,b]))(ha:a= .nilp∨a= .ptr id 0):
  BD tb (C3 tb) h ncc [.ptr id 0]=some (.tup [],some (h.set id (.cells (some tB) [.ptr id 0,b]))):=by
 obtain⟨hc,hl⟩:=Hy hh;have hid:=(cg.1 hh).1;simp only[BD,hf.1];rw[R8,hf.2];rcases ha with rfl|rfl
 ·obtain⟨u,hu,rfl⟩:=NX false h.length (h.set id (.cells (some tB) [.ptr id 0,b])) (by simp) [] rfl;simp[body,PM,Bp,rg,ops,wanted,BA,eval,get,put,val,load,place,shift,hc,hl,I1,sub,jL,BD,hne,Si,store,cellsOf,B7,results,hu,Gg]
 ·have hs:h.set id (.cells (some tB) [.ptr id 0,b])=h:=by
   apply ew;intro j;rw[i7]
   split
   ·rename_i hj;subst hj;exact hh.symm
   ·rfl
  obtain⟨u,hu,rfl⟩:=NX false h.length h rfl [] rfl;simp[body,PM,Bp,rg,ops,wanted,BA,eval,get,put,val,load,place,shift,hc,I1,sub,jL,results,hu,Gg,hs]
theorem M1(s:AP):(BS s).length=s.length:=by simp[BS]
theorem xH(s t:AP):BS (s++t)=BS s++BS t:=by simp[BS]
theorem tL{h:A6}{o:BU}(hh:h[id]? =some o):h.set id o=h:=by
 apply ew;intro j;rw[i7]
 split
 ·rename_i hj;subst hj
  split
  ·exact hh.symm
  ·rename_i hn;exact absurd (cg.1 hh).1 hn
 ·rfl
inductive jK(tB te:Nat)(h:A6)(id:Nat)(s:AP):A6→Prop where
 |none {a:AV} (hh:h[id]? =some (.cells (some tB) [a, .nils])) (ha:a= .nilp∨a= .ptr id 0) (hs:s=[]):jK tB te h id s (h.set id (.cells (some tB) [.ptr id 0, .nils]))
 |first {a:AV} (hh:h[id]? =some (.cells (some tB) [a, .nils])) (ha:a= .nilp∨a= .ptr id 0) (hs:s≠[]) (hm:s.length≤Ci):
  jK tB te h id s (h.set id (.cells (some tB) [.ptr id 0, .orow h.length s.length 0 s.length])++[.row (some te) false 1 (BS s)])
 |more {r:Nat} {l:AP} (hh:h[id]? =some (.cells (some tB) [.ptr id 0, .orow r l.length 0 l.length])) (hr:h[r]? =some (.row (some te) false 1 (BS l))) (hne:r≠id) (hm:l.length+s.length≤Ci):
  jK tB te h id s ((h.set r (.row (some te) false 1 (BS (l++s)))).set id (.cells (some tB) [.ptr id 0, .orow r (l++s).length 0 (l++s).length]))
theorem oM{s:AP}{G:A6}(hid:id<h.length)(hG:G=h.set id (.cells (some tB) [.ptr id 0, .orow h.length s.length 0 s.length])++[.row (some te) false 1 (BS s)]): ¬C7 (G.take h.length)≤h.length:=by
 have h1:G.take h.length=h.set id (.cells (some tB) [.ptr id 0, .orow h.length s.length 0 s.length]):=by
  rw[hG];exact ij (by simp)
 rw[h1];have key: ∀(h:A6) (id:Nat) (o:BU) (m:Nat),id<h.length→m<DW o→m<C7 (h.set id o):=by
  intro h
  induction h with
  |nil=>intro id o m hi;simp at hi
  |cons x h ih=>
   intro id o m hi ho;cases id with
   |zero=>simp only[jo,C7];omega
   |succ id=>simp only[j4,C7];have:=ih id o m (by simpa using hi) ho;omega
 have:=key h id (.cells (some tB) [.ptr id 0, .orow h.length s.length 0 s.length]) h.length hid (by simp only[DW,Bv,ment];omega);omega
theorem Qf{d:Option Nat}{o:GI}{l:List Bh}{f:Fr}{v:AV}{u:Option A6}{r:Option (Fr×A6)}(e:BA tb (C3 tb) (eval tb f) h o=some (v,u))(k:ops tb (C3 tb) l (put f d v) (u.getD h)=r):ops tb (C3 tb) (⟨d,none,o⟩::l) f h=r:=by
 simp[ops,wanted,e,k]
theorem Kr{l:List Bh}{y:AC}{f f':Fr}{h':A6}(e:ops tb (C3 tb) l f h=some (f',h')):Bp tb (C3 tb) (.seq (rg false l) y) f h=Bp tb (C3 tb) y f' h':=by
 simp[Bp,rg,e]
theorem stR{N j:Nat}{d:Option Nat}{o:GI}{l:List Bh}{w:List (Option (Nat×Nat))}{y:Nat×Nat}{f:Fr}{v:AV}{p:Fr×A6}(e:BA tb (C3 tb) (eval tb f) h o=some (v,none))(k:Hn tb (C3 tb) N j [] [] l w (put f d v) h p)(hq:Ti N j y.1 y.2 o=true:=by rfl):Hn tb (C3 tb) N j [] [] (⟨d,none,o⟩::l) (some y::w) f h p:=by
 obtain⟨lo,hi⟩:=y;refine .inl ⟨rfl,(v,none),e,rfl,rfl, .inl ⟨by rw[hq];rfl,?_⟩⟩;simp only[xR,hq,cond_true];exact k
theorem stW{N j:Nat}{d:Option Nat}{o:GI}{l:List Bh}{w:List (Option (Nat×Nat))}{f:Fr}{v:AV}{u:Option A6}{p:Fr×A6}(e:BA tb (C3 tb) (eval tb f) h o=some (v,u))(k:Hn tb (C3 tb) N (j+1) [] [] l w (put f d v) (u.getD h) p):Hn tb (C3 tb) N j [] [] (⟨d,none,o⟩::l) (none::w) f h p:=
 .inl ⟨rfl,(v,u),[],e,rfl,(fun _ hm=>absurd hm (by simp)),(fun _ hx=>absurd hx (by simp)),k⟩
theorem stE{N:Nat}{f:Fr}:Hn tb (C3 tb) N N [] [] [] [] f h (f,h):=⟨rfl,rfl⟩
theorem AbM{x y:AC}{f f':Fr}{h':A6}(e:Bp tb (C3 tb) x f h=some (.normal,f',h')):Bp tb (C3 tb) (.seq x y) f h=Bp tb (C3 tb) y f' h':=by
 simp[Bp,e]
theorem oN{cl:Nat→List AV→A6→M2}{rho:AO→AV}{x:AO}{ag:Bool}{n:Nat}{v:AV}(e:load h ag n (rho x)=some v):BA tb cl rho h (.ld ag n x)=some (v,none):=by simp[BA,e,val]
theorem ap_app{cl:Nat→List AV→A6→M2}{rho:AO→AV}{s x:AO}{t sz b:Nat}{new:List (List AV)}{r:AV×Option A6}(e:uI h sz (rho x)=some new)(e':Zh h t sz b (rho s) new=some r):BA tb cl rho h (.app t sz b s x)=some r:=by simp[BA,e,e']
theorem ap_st{cl:Nat→List AV→A6→M2}{rho:AO→AV}{a x:AO}{n:Nat}{G:A6}(e:store h n (rho a) (rho x)=some G):BA tb cl rho h (.st n a x)=some (.junk,some G):=by simp[BA,e]
theorem ap_len{cl:Nat→List AV→A6→M2}{rho:AO→AV}{x:AO}{n:Nat}(e:Tq (rho x)=some n):BA tb cl rho h (.len x)=some (.i .i64 n,none):=by simp[BA,e]
theorem cL{rho:AO→AV}{g:Nat}{xs:List AO}{r:AV×Option A6}(e:BD tb (C3 tb) h g (xs.map rho)=some r):BA tb (C3 tb) rho h (.call g xs)=some r:=by simp only[BA];exact e
theorem ws_run{s:AP}{h1 G:A6}{bv bv':AV}{u2:Option A6}(hc:BD tb (C3 tb) h ncc [.ptr id 0]=some (.tup [],some h1))(hld:load h1 false 1 (.ptr id 1)=some bv)(hap:Zh h1 te 1 1 bv (BS s)=some (bv',u2))(hst:store (u2.getD h1) 1 (.ptr id 1) bv'=some G):
  ∃f',Bp tb (C3 tb) (cT te ncc).body [(0, .ptr id 0),(1, .s s)] h=some (.ret,f',G)∧results f' G [.tmp 4, .tmp 5]=some [.i .i64 s.length, .nili]:=by
 apply Exists.intro;apply And.intro
 ·unfold cT;simp only;refine(Kr (Qf (v:= .i .i64 0) (u:=none) rfl (Qf (v:= .nili) (u:=none) rfl rfl))).trans ?_;refine(Kr (Qf (v:= .ptr id 0) (u:=none) rfl (Qf (v:= .tup []) (u:=some h1) (cL (by exact hc)) rfl))).trans ?_;refine(Kr (Qf (v:= .ptr id 0) (u:=none) rfl (Qf (v:= .ptr id 0) (u:=none) rfl (Qf (v:= .ptr id 0) (u:=none) rfl (Qf (v:= .ptr id 1) (u:=none) rfl (Qf (v:=bv) (u:=none) (oN (by exact hld))
   (Qf (v:= .s s) (u:=none) rfl (Qf (v:=bv') (u:=u2) (ap_app (new:=BS s) rfl (by exact hap)) (Qf (v:= .ptr id 0) (u:=none) rfl (Qf (v:= .ptr id 1) (u:=none) rfl
   (Qf (v:= .junk) (u:=some G) (ap_st (by exact hst)) rfl))))))))))).trans ?_
  refine(Kr (Qf (v:= .s s) (u:=none) rfl (Qf (v:= .i .i64 s.length) (u:=none) rfl (Qf (v:= .i .i64 s.length) (u:=none) rfl (Qf (v:= .nili) (u:=none) rfl rfl))))).trans ?_
  rfl
 ·rfl
theorem wb_run{c:UInt8}{h1 G:A6}{bv bv':AV}{u2:Option A6}(hc:BD tb (C3 tb) h ncc [.ptr id 0]=some (.tup [],some h1))(hld:load h1 false 1 (.ptr id 1)=some bv)(hap:Zh h1 te 1 1 bv (BS [c])=some (bv',u2))(hst:store (u2.getD h1) 1 (.ptr id 1) bv'=some G):
  ∃f',Bp tb (C3 tb) (cV te ncc).body [(0, .ptr id 0),(1, .i .u8 c.toNat)] h=some (.ret,f',G)∧results f' G [.tmp 4]=some [.nili]:=by
 apply Exists.intro;apply And.intro
 ·unfold cV;simp only;refine(Kr (Qf (v:= .nili) (u:=none) rfl rfl)).trans ?_;refine(Kr (Qf (v:= .ptr id 0) (u:=none) rfl (Qf (v:= .tup []) (u:=some h1) (cL (by exact hc)) rfl))).trans ?_;refine(Kr (Qf (v:= .ptr id 0) (u:=none) rfl (Qf (v:= .ptr id 0) (u:=none) rfl (Qf (v:= .ptr id 0) (u:=none) rfl (Qf (v:= .ptr id 1) (u:=none) rfl (Qf (v:=bv) (u:=none) (oN (by exact hld))
   (Qf (v:= .i .u8 c.toNat) (u:=none) rfl (Qf (v:= .sl 1 (BS [c])) (u:=none) rfl (Qf (v:=bv') (u:=u2) (ap_app (new:=BS [c]) rfl (by exact hap)) (Qf (v:= .ptr id 0) (u:=none) rfl (Qf (v:= .ptr id 1) (u:=none) rfl
   (Qf (v:= .junk) (u:=some G) (ap_st (by exact hst)) rfl)))))))))))).trans ?_
  refine(Kr (Qf (v:= .nili) (u:=none) rfl rfl)).trans ?_
  rfl
 ·rfl
theorem gB(hcc:tb.prim ncc=none∧tb.fns ncc=some (PM tB nne))(hne:tb.prim nne=some Si){s:AP}{G:A6}(hg:jK tB te h id s G):
  ∃h1 bv bv' u2,BD tb (C3 tb) h ncc [.ptr id 0]=some (.tup [],some h1)∧load h1 false 1 (.ptr id 1)=some bv∧Zh h1 te 1 1 bv (BS s)=some (bv',u2)∧store (u2.getD h1) 1 (.ptr id 1) bv'=some G∧
   (G.length=h.length∨ ¬C7 (G.take h.length)≤h.length):=by
 cases hg with
 |none hh ha hs=>
  subst hs;have hc:=cJ hcc hne hh ha;have hid:=(cg.1 hh).1;have h2:=Hy (h:=h.set id (.cells (some tB) [.ptr id 0, .nils])) (de hid);refine⟨_, .nils, .nils,none,hc,?_,?_,?_, .inl (by simp)⟩
  ·simp[load,place,h2.1,I1,sub]
  ·simp[Zh,BS]
  ·simp[store,h2.1,h2.2,cellsOf,B7]
 |first hh ha hs hm=>
  have hc:=cJ hcc hne hh ha;have hid:=(cg.1 hh).1;have h2:=Hy (h:=h.set id (.cells (some tB) [.ptr id 0, .nils])) (de hid);have hid':id<(h.set id (BU.cells (some tB) [.ptr id 0, .nils])).length:=by simpa using hid
  have h3:(h.set id (BU.cells (some tB) [.ptr id 0, .nils])++[BU.row (some te) false 1 (BS s)])[id]? =some (.cells (some tB) [.ptr id 0, .nils]):=by
   rw[bq hid'];exact de hid
  have h4:=Hy h3;have hs0: ¬s.length=0:=by simpa using hs
  refine⟨_, .nils, .orow h.length s.length 0 s.length,some (h.set id (BU.cells (some tB) [.ptr id 0, .nils])++[BU.row (some te) false 1 (BS s)]),hc,?_,?_,?_, .inr (oM (te:=te) (tB:=tB) (s:=s) hid rfl)⟩
  ·simp[load,place,h2.1,I1,sub]
  ·simp[Zh,M1,hs,hm]
  ·simp[store,h4.1,h4.2,cellsOf,B7];rw[qu _ _ hid',List.set_set]
 | @more r l hh hr hne' hm=>
  have hc:=cJ hcc hne hh (.inr rfl);rw[tL hh]at hc;have h1:=Hy hh;have hrow:=tT hr
  by_cases hs:s=[]
  ·subst hs;have hm':l.length≤Ci:=by simpa using hm
   refine⟨_, .orow r l.length 0 l.length, .orow r l.length 0 l.length,none,hc,?_,?_,?_, .inl (by simp)⟩
   ·simp[load,place,h1.1,I1,sub]
   ·simp[Zh,hrow.1,M1,hm',BS]
   ·simp[store,h1.1,h1.2,cellsOf,B7,tL hr]
  ·have h2:(h.set r (BU.row (some te) false 1 (BS (l++s))))[id]? =some (.cells (some tB) [.ptr id 0, .orow r l.length 0 l.length]):=by
    rw[d9 hne'];exact hh
   have h3:=Hy h2;have hs0: ¬s.length=0:=by simpa using hs
   refine⟨_, .orow r l.length 0 l.length, .orow r (l++s).length 0 (l++s).length,some (h.set r (BU.row (some te) false 1 (BS (l++s)))),hc,?_,?_,?_, .inl (by simp)⟩
   ·simp[load,place,h1.1,I1,sub]
   ·simp[Zh,hrow.1,hrow.2,M1,xH,hm,hs,ZA]
   ·simp[store,h3.1,h3.2,cellsOf,B7]
theorem RZ{fn:Cv}{args vs:List AV}{f f':Fr}{G:A6}{e:Ex}(hn:args.length=fn.np)(hf:(args.zipIdx.map fun p=>(p.2,p.1))=f)(he:Bp tb (C3 tb) fn.body f h=some (e,f',G))(hex:e= .ret∨e= .normal)(hr:results f' G fn.res=some vs):
  body tb (C3 tb) fn args h=some (Yx fn.warm h.length G vs):=by
 simp only[body,t6 hn,hf,he,aa];rcases hex with rfl|rfl<;>simp[hr]
theorem ws_eval(hf:tb.prim nws=none∧tb.fns nws=some (cT te ncc))(hcc:tb.prim ncc=none∧tb.fns ncc=some (PM tB nne))(hne:tb.prim nne=some Si){s:AP}{G:A6}(hg:jK tB te h id s G):
  BD tb (C3 tb) h nws [.ptr id 0, .s s]=some (.tup [.i .i64 s.length, .nili],some G):=by
 obtain⟨h1,bv,bv',u2,a1,a2,a3,a4,a5⟩:=gB hcc hne hg;obtain⟨f',e1,e2⟩:=ws_run a1 a2 a3 a4;simp only[BD,hf.1];rw[R8,hf.2];simp only[aa];rw[RZ (tb:=tb) (h:=h) (fn:=cT te ncc) (args:=[.ptr id 0, .s s]) rfl rfl e1 (.inl rfl) e2];rcases a5 with a5|a5
 ·obtain⟨u,hu,rfl⟩:=NX false h.length G a5 [.i .i64 s.length, .nili] rfl;exact ue some hu
 ·exact ue some (Yw h.length G a5 [.i .i64 s.length, .nili] rfl false)
theorem wb_eval(hf:tb.prim nwb=none∧tb.fns nwb=some (cV te ncc))(hcc:tb.prim ncc=none∧tb.fns ncc=some (PM tB nne))(hne:tb.prim nne=some Si){c:UInt8}{G:A6}(hg:jK tB te h id [c] G):
  BD tb (C3 tb) h nwb [.ptr id 0, .i .u8 c.toNat]=some (.nili,some G):=by
 obtain⟨h1,bv,bv',u2,a1,a2,a3,a4,a5⟩:=gB hcc hne hg;obtain⟨f',e1,e2⟩:=wb_run a1 a2 a3 a4;simp only[BD,hf.1];rw[R8,hf.2];simp only[aa];rw[RZ (tb:=tb) (h:=h) (fn:=cV te ncc) (args:=[.ptr id 0, .i .u8 c.toNat]) rfl rfl e1 (.inl rfl) e2];rcases a5 with a5|a5
 ·obtain⟨u,hu,rfl⟩:=NX false h.length G a5 [.nili] rfl;exact ue some hu
 ·exact ue some (Yw h.length G a5 [.nili] rfl false)
theorem oI: ∀l:AP,F7 (BS l)=some l
 |[]=>rfl
 |c::l=>by
  have:=oI l;simp only[BS,bh,F7]at this ⊢;rw[this];simp
theorem bs_run{G:A6}{bv pv:AV}{n:Nat}{s:AP}{u2:Option A6}(hld:load h false 1 (.ptr id 1)=some bv)(hus:BA tb (C3 tb) (fun _=>bv) h (.usd (.t 0))=some (pv,none))(hln:Tq bv=some n)
  (hst:BA tb (C3 tb) (fun a=>match a with| .t 0=>pv|_=> .i .i64 n) h (.ust te (.t 0) (.t 1))=some (.s s,u2)) (hG:u2.getD h=G):
  ∃f',Bp tb (C3 tb) (Wf te).body [(0, .ptr id 0)] h=some (.ret,f',G)∧results f' G [.tmp 2]=some [.s s]:=by
 subst hG;apply Exists.intro;apply And.intro
 ·unfold Wf;simp only;refine(Kr (Qf (v:= .s []) (u:=none) rfl rfl)).trans ?_;refine(AbM (nY (n:=1) (p:=(_,u2.getD h))
   (stR (v:= .ptr id 0) rfl (stR (v:= .ptr id 0) rfl (stR (v:= .ptr id 1) rfl (stR (v:=bv) (oN (by exact hld)) (stR (v:=pv) (by exact hus) (stR (v:= .ptr id 0) rfl (stR (v:= .ptr id 0) rfl (stR (v:= .ptr id 1) rfl (stR (v:=bv) (oN (by exact hld)) (stR (v:= .i .i64 n) (ap_len (by exact hln))
    (stW (v:= .s s) (u:=u2) (by exact hst) (stR (v:= .s s) rfl stE)))))))))))))).trans ?_
  rfl
 ·rfl
theorem xI(hf:tb.prim nbs=none∧tb.fns nbs=some (Wf te))(hh:h[id]? =some (.cells (some tB) [a, .nils])):BD tb (C3 tb) h nbs [.ptr id 0]=some (.s [],some h):=by
 have hcl:=(Hy hh).1;obtain⟨f',e1,e2⟩:=bs_run (tb:=tb) (te:=te) (h:=h) (id:=id) (G:=h) (bv:= .nils) (pv:= .nilp) (n:=0) (s:=[]) (u2:=none) (by simp[load,place,hcl,I1,sub]) rfl rfl (by simp[BA,Ir]) rfl;simp only[BD,hf.1];rw[R8,hf.2];simp only[aa];rw[RZ (tb:=tb) (h:=h) (fn:=Wf te) (args:=[.ptr id 0]) rfl rfl e1 (.inl rfl) e2];obtain⟨u,hu,rfl⟩:=NX false h.length h rfl [.s []] rfl;exact ue some hu
theorem bs_eval(hf:tb.prim nbs=none∧tb.fns nbs=some (Wf te)){r:Nat}{l:AP}(hh:h[id]? =some (.cells (some tB) [a, .orow r l.length 0 l.length]))(hr:h[r]? =some (.row (some te) false 1 (BS l)))(hl:l≠[])(hm:l.length≤Ci):
  BD tb (C3 tb) h nbs [.ptr id 0]=some (.s l,some (h.set r (.row (some te) true 1 (BS l)))):=by
 have hcl:=(Hy hh).1;have hrow:=tT hr;have hpos:0<l.length:=nx.2 hl;have htk:(BS l).take l.length=BS l:=au (by simp[BS]);obtain⟨f',e1,e2⟩:=bs_run (tb:=tb) (te:=te) (h:=h) (id:=id) (G:=h.set r (.row (some te) true 1 (BS l))) (bv:= .orow r l.length 0 l.length) (pv:= .pe r l.length 0 0) (n:=l.length) (s:=l) (u2:=some (h.set r (.row (some te) true 1 (BS l))))
  (by simp[load,place,hcl,I1,sub]) (by simp[BA,hrow.1,M1,hpos]) rfl (by simp[BA,Ir,hrow.1,hrow.2,M1,hpos,htk,oI,show(l.length:Int)≤Ci by omega]) rfl
 simp only[BD,hf.1];rw[R8,hf.2];simp only[aa];rw[RZ (tb:=tb) (h:=h) (fn:=Wf te) (args:=[.ptr id 0]) rfl rfl e1 (.inl rfl) e2];obtain⟨u,hu,rfl⟩:=NX false h.length (h.set r (.row (some te) true 1 (BS l))) (by simp) [.s l] rfl;exact ue some hu
end
end
section
def Sd(tB te:Nat)(g:Bool):Dom where
 α:=AP
 R:=fun F _ H v l=> ∃id,v= .ptr id 0∧((g=false∧l=[]∧ ∃a,(a= .nilp∨a= .ptr id 0)∧H[id]? =some (.cells (some tB) [a, .nils])∧ ∀i,F i↔i=id)∨
  ((g=true∨l≠[])∧ ∃r,r≠id∧H[id]? =some (.cells (some tB) [.ptr id 0, .orow r l.length 0 l.length])∧H[r]? =some (.row (some te) false 1 (BS l))∧ ∀i,F i↔(i=id∨i=r)))
 lt:=by
  rintro F P H v l ⟨id,_,⟨_,_,a,_,h,hF⟩|⟨_,r,_,h,h',hF⟩⟩ i hi
  ·obtain rfl:=(hF i).1 hi;exact Bg h
  ·rcases(hF i).1 hi with rfl|rfl
   ·exact Bg h
   ·exact Bg h'
 men:=by
  rintro F P H v l m ⟨id,rfl,⟨_,_,a,_,h,hF⟩|⟨_,r,_,h,h',hF⟩⟩ _ hm
  ·exact hm id ((hF id).2 rfl)
  ·exact hm id ((hF id).2 (.inl rfl))
 mono:=by
  rintro F P Q H G v l _ hG ⟨id,hv,⟨h0,h1,a,h2,h,hF⟩|⟨h0,r,h1,h,h',hF⟩⟩
  ·exact⟨id,hv, .inl ⟨h0,h1,a,h2,by rw[hG id ((hF id).2 rfl)];exact h,hF⟩⟩
  ·exact⟨id,hv, .inr ⟨h0,r,h1,by rw[hG id ((hF id).2 (.inl rfl))];exact h,by rw[hG r ((hF r).2 (.inr rfl))];exact h',hF⟩⟩
def DUsed:Dom where
 α:=Unit
 R:=fun F _ H v _=>(∀i,F i→i<H.length)∧ ∃id,v= .ptr id 0∧F id
 lt:=fun h=>h.1
 men:=by rintro F P H v x m ⟨_,id,rfl,h⟩ _ hm;exact hm id h
 mono:=by
  rintro F P Q H G v x _ hG ⟨h,id,hv,hi⟩;refine⟨fun i hi=> ?_,id,hv,hi⟩;have h1:=h i hi;have h2:=hG i hi;rw[ab h1]at h2;exact Bg h2
theorem Rt(l:AP):CT (BS l)=0:=by
 have:=(oO (P:=fun _=>False) (H:=[]) l).men (m:=0) (fun _ h=>h.elim);omega
section
variable{tb:CV}{tB te ncc nne nws nwb nbs:Nat}
theorem xM{g:Bool}{F P:Nat→Prop}{H:A6}{v:AV}{l s:AP}(hw:C7 H≤H.length)(h:(Sd tB te g).R F P H v l)(hm:l.length+s.length≤Ci):
  ∃id G F',v= .ptr id 0∧jK tB te H id s G∧H.length≤G.length∧(∀i,i<H.length→ ¬F i→G[i]? =H[i]?)∧(∀i,F' i→F i∨(H.length≤i∧i<G.length))∧C7 G≤G.length∧ ∀Q,(Sd tB te g).R F' Q G v (l++s):=by
 obtain⟨id,hv,⟨h0,h1,a,ha,hh,hF⟩|⟨h0,r,hne,hh,hr,hF⟩⟩:=h
 ·subst h1;have hid:=Bg hh
  by_cases hs:s=[]
  ·subst hs;refine⟨id,_,F,hv, .none hh ha rfl,by simp,fun i _ hi=>d9 fun e=>hi ((hF i).2 e.symm),fun i hi=> .inl hi,?_,fun Q=>⟨id,hv, .inl ⟨h0,rfl,_, .inr rfl,de hid,hF⟩⟩⟩;simp only[ig];exact IC hw (by simp only[DW,Bv,ment];omega)
  ·refine⟨id,_,fun i=>i=id∨i=H.length,hv, .first hh ha hs (by simpa using hm),by simp,fun i hi hn=> ?_,fun i hi=> ?_,?_,fun Q=>⟨id,hv, .inr ⟨.inr (by simpa using hs),H.length,by omega,?_,?_,fun i=>q7⟩⟩⟩
   ·rw[bq (by simpa using hi)];exact d9 fun e=>hn ((hF i).2 e.symm)
   ·rcases hi with rfl|rfl
    ·exact .inl ((hF _).2 rfl)
    ·exact .inr ⟨bc _,by simp⟩
   ·rw[Uo];have:=IC (l:=H) (i:=id) (o:= .cells (some tB) [.ptr id 0, .orow H.length s.length 0 s.length]) (m:=H.length+1) (by omega) (by simp only[DW,Bv,ment];omega);simp only[C7,DW,Rt,an,ig,ba,bu];omega
   ·rw[bq (by simpa using hid),dt];exact de hid
   ·rw[bo (by simp)];simp
 ·have hid:=Bg hh;have hrd:=Bg hr;refine⟨id,_,F,hv, .more hh hr hne hm,by simp,fun i _ hi=> ?_,fun i hi=> .inl hi,?_,fun Q=>⟨id,hv, .inr ⟨?_,r,hne,?_,?_,hF⟩⟩⟩
  ·rw[d9 (fun e=>hi ((hF i).2 (.inl e.symm))),d9 (fun e=>hi ((hF i).2 (.inr e.symm)))]
  ·simp only[ig];exact IC (IC hw (by simp only[DW,Rt];omega)) (by simp only[DW,Bv,ment];omega)
  ·rcases h0 with h0|h0
   ·exact .inl h0
   ·exact .inr (by simp[h0])
  ·exact de (by simpa using hid)
  ·rw[d9 (iz hne)];exact de hrd
variable{Γ:Cx}{a b:AO}
theorem AbA{d:Nat}{z:List AV}(j:Nat)(te:Nat)(hz:z=[.nilp, .nils])(hj:AQ Γ.ss j=none):UP tb Γ (some d) (.alloc tB z) (some ([]:AP)) fun l=>⟨(d, .own j)::Γ.ts,(j, .dom (Sd tB te false) l)::Γ.ss⟩:=by
 rintro E rv fp f H R _ ⟨⟩;subst hz;obtain⟨rv',fp',h1,h2,h3⟩:=R.more (j:=j) (S:= .dom (Sd tB te false) []) (v:= .ptr H.length 0) (o:= .cells (some tB) [.nilp, .nils]) (GO hj) (by simp only[DW,Bv,ment];omega) rfl (by simp[ment]) rfl fun rv' fp' e1 e2 hP hs=>
  ⟨H.length,e1, .inl ⟨rfl,rfl, .nilp, .inl rfl,by simp,e2⟩⟩
 exact⟨_,_,rfl,rv',fp',h3.push (d:=d) (φ:= .own j) ⟨h2,h1.symm⟩⟩
theorem B5.dom{E:QS}{rv:Nat→AV}{fp:Fp}{f:Fr}{H G:A6}(R:B5 E Γ rv fp f H){j:Nat}{S:Dj}{D:Dom}{y:D.α}(hnk:Dw (AQ Γ.ss j)=false)(hl:Bn Γ.ss j){F':Nat→Prop}(hlen:H.length≤G.length)(hG: ∀i,i<H.length→ ¬fp j i→G[i]? =H[i]?)
  (hF: ∀i,F' i→fp j i∨(H.length≤i∧i<G.length)) (hw:C7 G≤G.length) (hS:S= .dom D y) (hR: ∀Q,D.R F' Q G (rv j) y):
  ∃rv' fp',rv' j=rv j∧Bn ((j,S)::Γ.ss) j∧B5 E ⟨Γ.ts,(j,S)::Γ.ss⟩ rv' fp' f G:=by
 subst hS;exact R.chg (j:=j) (S:= .dom D y) (v:=rv j) (F:=F') (G:=G) hnk rfl hlen (fun i hi hn=>hG i hi (hn hl)) (fun i hi=>(hF i hi).imp (fun h=>⟨hl,h⟩) id) (fun _=> .inl rfl) hw (dj (R.rvlt j hl) hlen) (.inr ((R.scal j hl).resolve_left (by rw[hnk];simp)))
  fun rv' fp' e1 e2 _ _=>by
   show D.R (fp' j) _ G (rv' j) y;rw[e1,e2];exact hR _
def OP(l s:AP):Option AP:=if l.length+s.length≤Ci then some (l++s)else none
theorem jI{g:Bool}{d j:Nat}{l s:AP}(hcc:tb.prim ncc=none∧tb.fns ncc=some (PM tB nne))(hne:tb.prim nne=some Si)(hf:tb.prim nws=none∧tb.fns nws=some (cT te ncc))
  (ha:C4 tb Γ a (.own j)) (hj:AQ Γ.ss j=some (.dom (Sd tB te g) l)) (hb:C4 tb Γ b (.val Au s)):
  UP tb Γ (some d) (.call nws [a,b]) (OP l s) fun l'=>⟨(d, .junk)::Γ.ts,(j, .dom (Sd tB te g) l')::Γ.ss⟩:=by
 intro E rv fp f H R l' hl';simp only[OP]at hl'
 split at hl'
 ·rename_i hm;cases hl';obtain⟨hl,hv⟩:=ha E rv fp f H R;obtain⟨id,G,F',e,hg,h1,h2,h3,h4,h5⟩:=xM (s:=s) R.wf (R.slots j _ hj) hm;obtain⟨rv',fp',g1,g2,g3⟩:=R.dom (G:=G) (F':=F') (by rw[hj];rfl) hl h1 h2 h3 h4 rfl h5;refine⟨.tup [.i .i64 s.length, .nili],some G,?_,rv',fp',g3.push (d:=d) (φ:= .junk) trivial⟩;simp only[BA,bh,eo,hv,e,Ek.1 (hb E rv fp f H R)];exact ws_eval hf hcc hne hg
 ·cases hl'
theorem M_bldB{g:Bool}{d j:Nat}{l:AP}{c:UInt8}(hcc:tb.prim ncc=none∧tb.fns ncc=some (PM tB nne))(hne:tb.prim nne=some Si)(hf:tb.prim nwb=none∧tb.fns nwb=some (cV te ncc))
  (ha:C4 tb Γ a (.own j)) (hj:AQ Γ.ss j=some (.dom (Sd tB te g) l)) (hb:C4 tb Γ b (.val bi c)):
  UP tb Γ (some d) (.call nwb [a,b]) (OP l [c]) fun l'=>⟨(d, .junk)::Γ.ts,(j, .dom (Sd tB te g) l')::Γ.ss⟩:=by
 intro E rv fp f H R l' hl';simp only[OP]at hl'
 split at hl'
 ·rename_i hm;cases hl';obtain⟨hl,hv⟩:=ha E rv fp f H R;obtain⟨id,G,F',e,hg,h1,h2,h3,h4,h5⟩:=xM (s:=[c]) R.wf (R.slots j _ hj) hm;obtain⟨rv',fp',g1,g2,g3⟩:=R.dom (G:=G) (F':=F') (by rw[hj];rfl) hl h1 h2 h3 h4 rfl h5;refine⟨.nili,some G,?_,rv',fp',g3.push (d:=d) (φ:= .junk) trivial⟩;simp only[BA,bh,eo,hv,e,Zk.1 (hb E rv fp f H R)];exact wb_eval hf hcc hne hg
 ·cases hl'
def sD(g:Bool)(l:AP):Option AP:=if l.length≤Ci∧(g=true→l≠[])then some l else none
theorem Ab9{g:Bool}{d j:Nat}{l:AP}(hf:tb.prim nbs=none∧tb.fns nbs=some (Wf te))(ha:C4 tb Γ a (.own j))(hj:AQ Γ.ss j=some (.dom (Sd tB te g) l)):
  UP tb Γ (some d) (.call nbs [a]) (sD g l) fun l'=>⟨(d, .val Au l')::Γ.ts,(j, .dom DUsed ())::Γ.ss⟩:=by
 intro E rv fp f H R l' hl';simp only[sD]at hl'
 split at hl'
 ·rename_i hc;obtain⟨hm,hg⟩:=hc;cases hl';obtain⟨hl,hv⟩:=ha E rv fp f H R;have hd:=R.slots j _ hj;obtain⟨id,e,⟨h0,h1,x,hx,hh,hF⟩|⟨h0,r,hne',hh,hr,hF⟩⟩:=hd
  ·subst h1;obtain⟨rv',fp',g1,g2,g3⟩:=R.dom (D:=DUsed) (y:=()) (G:=H) (F':=fp j) (by rw[hj];rfl) hl (bc _) (fun _ _ _=>rfl) (fun i hi=> .inl hi) R.wf rfl (fun Q=>⟨fun i hi=>(R.fplt j i hl hi).1,id,e,(hF id).2 rfl⟩);refine⟨.s [],some H,?_,rv',fp',g3.push (d:=d) (φ:= .val Au []) (Ek.2 rfl)⟩;simp only[BA,bh,eo,hv,e];exact xI hf hh
  ·have hl0:l≠[]:=by
    rcases h0 with h0|h0
    ·exact hg h0
    ·exact h0
   have hrd:=Bg hr;obtain⟨rv',fp',g1,g2,g3⟩:=R.dom (D:=DUsed) (y:=()) (G:=H.set r (.row (some te) true 1 (BS l))) (F':=fp j) (by rw[hj];rfl) hl (by simp) (fun i _ hn=>d9 fun e=>hn ((hF i).2 (.inr e.symm))) (fun i hi=> .inl hi)
    (by simp only[ig];exact IC R.wf (by simp only[DW,Rt];omega)) rfl (fun Q=>⟨fun i hi=>by simpa using (R.fplt j i hl hi).1,id,e,(hF id).2 (.inl rfl)⟩)
   refine⟨.s l,some (H.set r (.row (some te) true 1 (BS l))),?_,rv',fp',g3.push (d:=d) (φ:= .val Au l) (Ek.2 rfl)⟩;simp only[BA,bh,eo,hv,e];exact bs_eval hf hh hr hl0 hm
 ·cases hl'
end
end
section
section
variable{tb:CV}{Γ:Cx}{a b:AO}{E:QS}{rv:Nat→AV}{fp:Fp}{f:Fr}{H:A6}
theorem Qx{n j:Nat}{φ:AY}(h:BP Γ.ts n=some (.kv j))(hj:AQ Γ.ss j=some (.keep φ)):C4 tb Γ (.t n) φ:=by
 intro E rv fp f H I;have h1:=(I.temps n _ h).2;have h2:=(I.slots j _ hj).1;show FR rv Γ.ss (Pf E Γ.ss fp H) H φ (get f n);rw[h1];exact h2
theorem Fk{g:Nat}:C4 tb Γ (.f g) (.fnv (.func g) [] []):=fun _ _ _ _ _ _=>⟨fun j hj=>(by cases hj),rfl⟩
theorem B5.keepNew(I:B5 E Γ rv fp f H){j:Nat}{φ:AY}{v:AV}(hj:AQ Γ.ss j=none)(h:FR rv Γ.ss (Pf E Γ.ss fp H) H φ v)(hv:ment v≤H.length):
  ∃rv' fp',rv' j=v∧(∀k,k≠j→rv' k=rv k)∧B5 E ⟨Γ.ts,(j, .keep φ)::Γ.ss⟩ rv' fp' f H∧ ∀ψ w,FR rv Γ.ss (Pf E Γ.ss fp H) H ψ w→FR rv' ((j, .keep φ)::Γ.ss) (Pf E ((j, .keep φ)::Γ.ss) fp' H) H ψ w:=by
 have hnl:=GO hj
 let rv':Nat→AV:=fun k=>if k=j then v else rv k
 let fp':Fp:=fun k=>if k=j then fun _=>False else fp k
 have hrj:rv' j=v:=t6 rfl;have hfj: ∀i,¬fp' j i:=fun i h=>by simp only[fp',uc]at h
 have hr: ∀k,k≠j→rv' k=rv k:=fun k hk=>t7 hk;have hf: ∀k,k≠j→fp' k=fp k:=fun k hk=>t7 hk;have hlv: ∀k,k≠j→(Bn ((j, .keep φ)::Γ.ss) k↔Bn Γ.ss k):=fun k hk=>Y5 hk;have hne: ∀k,Bn Γ.ss k→k≠j:=fun k l e=>hnl (e▸l);have hfind: ∀k,k≠j→AQ ((j, .keep φ)::Γ.ss) k=AQ Γ.ss k:=fun k hk=>by simp only[AQ,t7 (iz hk)]
 have hP: ∀i,Pf E Γ.ss fp H i→Pf E ((j, .keep φ)::Γ.ss) fp' H i:=by
  rintro i (h|⟨h1,h2,h3⟩)
  ·exact .inl h
  ·refine .inr ⟨h1,h2,fun k l e=> ?_⟩
   by_cases hk:k=j
   ·subst hk;exact hfj i e
   ·rw[hf k hk]at e;exact h3 k ((hlv k hk).1 l) e
 have hsame: ∀ψ,XL rv rv' Γ.ss ((j, .keep φ)::Γ.ss) ψ:=fun ψ k _ l=>⟨⟨(hlv k (hne k l)).2 l,fun e=>by rw[hfind k (hne k l)];exact e⟩,hr k (hne k l)⟩;have hFR: ∀ψ w,FR rv Γ.ss (Pf E Γ.ss fp H) H ψ w→FR rv' ((j, .keep φ)::Γ.ss) (Pf E ((j, .keep φ)::Γ.ss) fp' H) H ψ w:=fun ψ w k=>k.mono (fun i hi=>⟨hP i hi,rfl⟩) (hsame ψ);refine⟨rv',fp',hrj,hr,⟨I.le,I.base,I.wf,?_,?_,?_,?_,?_,fun t ψ e=>hFR ψ _ (I.temps t ψ e),?_⟩,hFR⟩
 ·intro k i l e
  by_cases hk:k=j
  ·subst hk;exact absurd e (hfj i)
  ·rw[hf k hk]at e;exact I.fplt k i ((hlv k hk).1 l) e
 ·intro k l
  by_cases hk:k=j
  ·subst hk;rw[hrj];exact hv
  ·rw[hr k hk];exact I.rvlt k ((hlv k hk).1 l)
 ·intro k l
  by_cases hk:k=j
  ·subst hk;exact .inl (by simp only[AQ,uc];rfl)
  ·rw[hr k hk,hfind k hk];exact I.scal k ((hlv k hk).1 l)
 ·intro k k' i l l' e e'
  by_cases hk:k=j
  ·subst hk;exact absurd e (hfj i)
  ·by_cases hk':k'=j
   ·subst hk';exact absurd e' (hfj i)
   ·rw[hf k hk]at e;rw[hf k' hk']at e';exact I.inj k k' i ((hlv k hk).1 l) ((hlv k' hk').1 l') e e'
 ·intro k S e
  by_cases hk:k=j
  ·subst hk;simp only[AQ,uc,ae]at e;subst e;exact⟨by rw[hrj];exact hFR φ v h,hfj⟩
  ·rw[hfind k hk]at e;exact(I.slots k S e).keep (hr k hk) (hf k hk) (fun i hi=>⟨hP i hi,rfl⟩) (bc _) (fun _ _=>rfl) (fun ps _ p _=>hsame p.2) (fun ψ _=>hsame ψ) fun _ _ _=>hsame _
 ·intro k ψ e
  by_cases hk:k=j
  ·subst hk;simp only[AQ,uc]at e;cases e
  ·rw[hfind k hk]at e;exact hFR ψ _ (I.gh k ψ e)
def xT:Nat→List AY→Ss→Ss
 |_,[],ss=>ss
 |j,φ::l,ss=>xT (j+1) l ((j, .keep φ)::ss)
def YG(ss:Ss):Nat→List AY→Prop
 |_,[]=>True
 |j,_::l=>AQ ss j=none∧YG ss (j+1) l
def yF(rv:Nat→AV)(ss:Ss)(P:Nat→Prop)(H:A6):List AY→List AV→Prop
 |[],[]=>True
 |φ::l,v::r=>FR rv ss P H φ v∧yF rv ss P H l r
 |_,_=>False
theorem ZG{ss:Ss}{S:Dj}{k:Nat}: ∀{l:List AY} {j:Nat},k<j→YG ss j l→YG ((k,S)::ss) j l
 |[],_,_,_=>trivial
 |_::_,j,hk,h=>⟨by simp only[AQ,t7 (show¬k=j by omega)];exact h.1,ZG (by omega) h.2⟩
theorem xS{k:Nat}: ∀{l:List AY} {j:Nat} {ss:Ss},k<j→AQ (xT j l ss) k=AQ ss k
 |[],_,_,_=>rfl
 |φ::l,j,ss,hk=>by
  rw[xT,xS (by omega)];simp only[AQ,t7 (show¬j=k by omega)]
theorem B5.keepL: ∀{l:List AY} {vs:List AV} {Γ:Cx} {rv:Nat→AV} {fp:Fp} {j:Nat},B5 E Γ rv fp f H→YG Γ.ss j l→yF rv Γ.ss (Pf E Γ.ss fp H) H l vs→(∀v∈vs,ment v≤H.length)→
  ∃rv' fp',(dp j l.length).map rv'=vs∧Q1 (xT j l Γ.ss) (dp j l.length)∧(∀k,k<j→rv' k=rv k)∧B5 E ⟨Γ.ts,xT j l Γ.ss⟩ rv' fp' f H
 |[],[],Γ,rv,fp,j,I,_,_,_=>⟨rv,fp,rfl,fun _ h=>(by cases h),fun _ _=>rfl,I⟩
 |φ::l,v::vs,Γ,rv,fp,j,I,hf,hv,hm=>by
  obtain⟨rv1,fp1,h1,h2,h3,h4⟩:=I.keepNew hf.1 hv.1 (hm v bg);have key: ∀{l:List AY} {vs:List AV},yF rv Γ.ss (Pf E Γ.ss fp H) H l vs→yF rv1 ((j, .keep φ)::Γ.ss) (Pf E ((j, .keep φ)::Γ.ss) fp1 H) H l vs:=by
   intro l
   induction l with
   |nil=>intro vs h;cases vs<;>exact h
   |cons ψ l ih=>
    intro vs h;cases vs with
    |nil=>exact h
    |cons w vs=>exact⟨h4 ψ w h.1,ih h.2⟩
  obtain⟨rv2,fp2,g1,g2,g3,g4⟩:=B5.keepL (l:=l) (vs:=vs) (j:=j+1) h3 (ZG (by omega) hf.2) (key hv.2) (fun w hw=>hm w (a8 _ hw));refine⟨rv2,fp2,?_,fun k hk=> ?_,fun k hk=>by rw[g3 k (by omega),h2 k (by omega)],g4⟩
  ·rw[ba,nh,bh,g1,g3 j (by omega),h1]
  ·rw[ba,nh]at hk;rcases bm.1 hk with rfl|hk
   ·rw[xT,xS (by omega)];simp only[AQ,uc];rfl
   ·exact g2 k hk
inductive XN(tb:CV)(Γ:Cx):List AO→List AY→Prop where
 |nil:XN tb Γ [] []
 |cons {a:AO} {φ:AY} {l:List AO} {r:List AY}:C4 tb Γ a φ→XN tb Γ l r→XN tb Γ (a::l) (φ::r)
theorem XN.spec(I:B5 E Γ rv fp f H): ∀{l:List AO} {r:List AY},XN tb Γ l r→yF rv Γ.ss (Pf E Γ.ss fp H) H r (l.map (eval tb f))
 |_,_, .nil=>trivial
 |_,_, .cons h k=>⟨h E rv fp f H I,k.spec I⟩
theorem XN.length: ∀{l:List AO} {r:List AY},XN tb Γ l r→r.length=l.length
 |_,_, .nil=>rfl
 |_,_, .cons _ k=>by simp[k.length]
theorem XN.app: ∀{l m:List AO} {r q:List AY},XN tb Γ l r→XN tb Γ m q→XN tb Γ (l++m) (r++q)
 |_,_,_,_, .nil,k=>k
 |_,_,_,_, .cons h k,g=> .cons h (k.app g)
def cG:AY→Bool
 | .junk=>false
 |_=>true
theorem yF.men(hp: ∀i,Pf E Γ.ss fp H i→i<H.length)(hi: ∀j,Bn Γ.ss j→ment (rv j)≤H.length): ∀{l:List AY} {vs:List AV},l.all cG=true→yF rv Γ.ss (Pf E Γ.ss fp H) H l vs→ ∀v∈vs,ment v≤H.length
 |[],[],_,_,v,hv=>by cases hv
 |φ::l,w::vs,hj,h,v,hv=>by
  simp only[fy,af]at hj;rcases bm.1 hv with rfl|hv
  ·exact tj hp hi (by rintro rfl;simp[cG]at hj) h.1
  ·exact yF.men hp hi hj.2 h.2 v hv
def OpN(tb:CV)(Γ:Cx)(d:Option Nat)(o:GI)(Γ':Cx):Prop:=
 ∀E rv fp f H,B5 E Γ rv fp f H→ ∃v u,BA tb (C3 tb) (eval tb f) H o=some (v,u)∧u.getD H=H∧ ∃rv' fp',B5 E Γ' rv' fp' (put f d v) H
theorem FX{d:Nat}{fn:Fn}{xs ys:List AO}{φs ψs:List AY}(j:Nat)(hx:XN tb Γ xs φs)(hy:XN tb Γ ys ψs)(hn:(φs++ψs).all cG=true)(hf:YG Γ.ss j (φs++ψs)){js ks:List Nat}(hjs:js=dp j φs.length)(hks:ks=dp (j+φs.length) ψs.length):
  OpN tb Γ (some d) (.mkf fn xs ys) ⟨(d, .fnv fn js ks)::Γ.ts,xT j (φs++ψs) Γ.ss⟩:=by
 intro E rv fp f H R;subst hjs hks;have hv:=(hx.app hy).spec R;obtain⟨rv',fp',h1,h2,_,h4⟩:=R.keepL (j:=j) hf hv (yF.men R.ltP R.rvlt hn hv);rw[an,←nu]at h1 h2;rw[df,df]at h1;obtain⟨e1,e2⟩:=List.append_inj h1 (by simp[hx.length]);refine⟨_,none,rfl,rfl,rv',fp',h4.push (d:=d) (φ:= .fnv fn _ _) ⟨h2,?_⟩⟩;rw[e1,e2]
def oneS:Option Dj→Bool
 |some (.row _ _)=>true
 |some (.rowk _ _)=>true
 |some (.cells _)=>true
 |some (.dom _ _)=>true
 |_=>false
def szF(ss:Ss):AY→Option Nat
 | .own j=>if oneS (AQ ss j)then some 1 else none
 | .val t _=>some t.sz
 | .rp _ _=>some 1
 | .cp _ _=>some 1
 | .ep _ _ _=>some 1
 | .con _=>some 1
 | .fnv _ _ _=>some 1
 |_=>none
def aggF:AY→Bool
 | .val t _=>t.agg
 |_=>false
theorem yW{P:Nat→Prop}{v:AV}(h:aS P v):cellsOf v=[v]:=by
 cases v<;>simp only[aS]at h<;>rfl
theorem Wn(I:B5 E Γ rv fp f H){φ:AY}{v:AV}{n:Nat}(hs:szF Γ.ss φ=some n)(h:FR rv Γ.ss (Pf E Γ.ss fp H) H φ v):(cellsOf v).length=n∧I1 (aggF φ) (cellsOf v)=some v:=by
 cases φ<;>simp only[szF,ae,reduceCtorEq]at hs
 case own j=>
  split at hs
  ·rename_i ho;cases hs;obtain⟨l,rfl⟩:=h;have hsc:=(I.scal j l).resolve_left (by
    intro hk;cases e:AQ Γ.ss j with
    |none=>rw[e]at ho;cases ho
    |some S=>rw[e]at ho hk;cases S<;>simp only[oneS,Dw,ah]at ho hk)
   rw[N5 hsc];exact⟨rfl,rfl⟩
  ·cases hs
 ·subst hs;rename_i t x;have hc:=ng h;refine⟨t.len hc,?_⟩;rcases h with ⟨ha,cs,rfl,_⟩|⟨ha,hr⟩
  ·simp only[aggF,ha];rfl
  ·have:=t.sca hr;simp only[fy,r9,lc]at this;rw[N5 this];simp only[aggF,ha];rfl
 ·subst hs;rw[yW h.1];exact⟨rfl,rfl⟩
 ·subst hs;obtain⟨_,id,_,rfl⟩:=h;exact⟨rfl,rfl⟩
 ·subst hs;obtain⟨_,id,m,_,_,rfl⟩:=h;exact⟨rfl,rfl⟩
 ·subst hs;obtain⟨rfl,_,hsc⟩:=h;rw[N5 hsc];exact⟨rfl,rfl⟩
 ·subst hs;obtain⟨_,rfl⟩:=h;exact⟨rfl,rfl⟩
def eG(ss:Ss):Nat→List (Nat×Nat×AO)→List AY→Option Nat
 |o,[],[]=>some o
 |o,(o',n,_)::r,φ::l=>if o'=o∧szF ss φ=some n then eG ss (o+n) r l else none
 |_,_,_=>none
theorem vS(I:B5 E Γ rv fp f H){rho:AO→AV}: ∀{ps:List (Nat×Nat×AO)} {l:List AY} {o e:Nat} {cs:List AV},eG Γ.ss o ps l=some e→e=cs.length→yF rv Γ.ss (Pf E Γ.ss fp H) H l (ps.map fun p=>rho p.2.2)→
  Po cs rho ps=some (cs.take o++(ps.map fun p=>rho p.2.2).flatMap cellsOf)
 |[],[],o,e,cs,h,he,_=>by
  simp only[eG,ae]at h;simp only[Po,eo,List.flatMap_nil,ei];rw[au (by omega)]
 |(o',n,a)::ps,φ::l,o,e,cs,h,he,hv=>by
  simp only[eG]at h
  split at h
  ·rename_i hc;obtain⟨rfl,hs⟩:=hc;obtain⟨h1,_⟩:=Wn I hs hv.1;have hle: ∀{ps:List (Nat×Nat×AO)} {l:List AY} {o e:Nat},eG Γ.ss o ps l=some e→o≤e:=by
    intro ps
    induction ps with
    |nil=>intro l o e h;cases l<;>simp only[eG,ae,reduceCtorEq]at h;omega
    |cons q ps ih=>
     intro l o e h;obtain⟨q1,q2,q3⟩:=q;cases l with
     |nil=>simp[eG]at h
     |cons φ l=>
      simp only[eG]at h
      split at h
      ·have:=ih h;omega
      ·cases h
   have hb:=hle h;simp only at h1;simp only[Po,h1];rw[t6 ⟨trivial,by omega⟩];have hlen:(B7 cs o' (cellsOf (rho a))).length=cs.length:=dD (by omega);rw[vS I h (by rw[hlen];exact he) hv.2];simp only[bh,d5];have ht:(B7 cs o' (cellsOf (rho a))).take (o'+n)=cs.take o'++cellsOf (rho a):=by
    simp only[B7];rw[ij (by simp only[an,aq,h1];omega)]
   rw[ht,br]
  ·cases h
 |[],_::_,_,_,_,h,_,_=>by simp[eG]at h
 |(_,_,_)::_,[],_,_,_,h,_,_=>by simp[eG]at h
theorem EH{d:Nat}{zero:List AV}{ps:List (Nat×Nat×AO)}{φs:List AY}(j:Nat)(hx:XN tb Γ (ps.map fun p=>p.2.2) φs)(hr:eG Γ.ss 0 ps φs=some zero.length)(hn:φs.all cG=true)(hf:YG Γ.ss j φs){js:List Nat}(hjs:js=dp j φs.length):
  OpN tb Γ (some d) (.bld zero ps) ⟨(d, .aggk js)::Γ.ts,xT j φs Γ.ss⟩:=by
 intro E rv fp f H R;subst hjs;have hv:=hx.spec R;rw[j0]at hv;have hfill:=vS R (rho:=eval tb f) hr rfl hv;obtain⟨rv',fp',h1,h2,_,h4⟩:=R.keepL (j:=j) hf hv (yF.men R.ltP R.rvlt hn hv);refine⟨.agg (zero.take 0++(ps.map fun p=>eval tb f p.2.2).flatMap cellsOf),none,by simp only[BA,hfill,val,ak],rfl,rv',fp',h4.push (d:=d) (φ:= .aggk _) ⟨h2,?_⟩⟩;have e:((dp j φs.length).flatMap fun j=>cellsOf (rv' j))=((dp j φs.length).map rv').flatMap cellsOf:=by rw[o9]
 rw[e,h1,lq,dt]
 rfl
def offK(ss:Ss):List Nat→Option Nat
 |[]=>some 0
 |j::r=>match AQ ss j with
  |some (.keep φ)=>(szF ss φ).bind fun n=>(offK ss r).map (n+ ·)
  |_=>none
theorem nF(I:B5 E Γ rv fp f H): ∀{l:List Nat} {o:Nat},offK Γ.ss l=some o→(l.flatMap fun j=>cellsOf (rv j)).length=o
 |[],o,h=>by simp only[offK,ae]at h;subst h;rfl
 |j::l,o,h=>by
  simp only[offK]at h
  split at h
  ·rename_i φ e;obtain⟨n,hn,h⟩:=ad.1 h;obtain⟨m,hm,rfl⟩:=aj.1 h;rw[d5,an,nF I hm,(Wn I hn (I.slots j _ e).1).1]
  ·cases h
theorem PB{l r:List Nat}{j off n:Nat}{ag:Bool}{φ:AY}(ha:C4 tb Γ a (.aggk (l++j::r)))(hl:offK Γ.ss l=some off)(hj:AQ Γ.ss j=some (.keep φ))(hn:szF Γ.ss φ=some n)(hag:ag=aggF φ):EG tb Γ (.fld ag off n a) (some ()) fun _=> .kv j:=by
 rintro E rv fp f H R _ ⟨⟩;obtain⟨hk,hv⟩:=ha E rv fp f H R;have h1:=nF R hl;obtain⟨h2,h3⟩:=Wn R hn (R.slots j _ hj).1;rw[kl,d5]at hv;subst hag;have hsub:sub ((l.flatMap fun j=>cellsOf (rv j))++(cellsOf (rv j)++r.flatMap fun j=>cellsOf (rv j))) off n=cellsOf (rv j):=by
  simp only[sub];rw[fh h1,ij h2]
 refine⟨rv j,none,?_,rfl,fun k hk'=>by rw[ct.1 hk',hj];rfl,rfl⟩;simp only[BA,hv,hsub,h3,val,ak];rw[t6 (by simp only[an,h1,h2];omega)]
variable{ks:List Kf}{ρ:Type}{Q:OC ρ}
def Bx{q:Bool}{d:Option Nat}{o:GI}{l:List Bh}{Γ':Cx}(h:OpN tb Γ d o Γ')(k:Aa tb Γ' (rg q l) ks Q):Aa tb Γ (rg q (⟨d,none,o⟩::l)) ks Q:=
 ⟨k.m,fun E f H ⟨rv,fp,I⟩ r hr=>by
  obtain⟨v,u,h1,h2,rv',fp',h3⟩:=h E rv fp f H I;obtain⟨e,f',H',h4,h5⟩:=k.ok E _ _ ⟨rv',fp',h3⟩ r hr;exact⟨e,f',H',by rw[EM h1 h2];exact h4,h5⟩⟩
end
end
section
inductive ZT where
 |o (a:AO)
 |k (j:Nat)
def pE(tb:CV)(f:Fr)(rv:Nat→AV):ZT→AV
 | .o a=>eval tb f a
 | .k j=>rv j
def OpS(tb:CV)(Γ:Cx)(s:ZT)(φ:AY):Prop:= ∀E rv fp f H,B5 E Γ rv fp f H→FR rv Γ.ss (Pf E Γ.ss fp H) H φ (pE tb f rv s)
inductive lS(tb:CV)(Γ:Cx):List ZT→List AY→Prop where
 |nil:lS tb Γ [] []
 |cons {s:ZT} {φ:AY} {l:List ZT} {r:List AY}:OpS tb Γ s φ→lS tb Γ l r→lS tb Γ (s::l) (φ::r)
def TW(tb:CV)(Γ:Cx)(o:GI)(g:Nat)(l:List ZT):Prop:=
 ∀E rv fp f H,B5 E Γ rv fp f H→BA tb (C3 tb) (eval tb f) H o=BD tb (C3 tb) H g (l.map (pE tb f rv))
section
variable{tb:CV}{Γ:Cx}{a b:AO}{E:QS}{rv:Nat→AV}{fp:Fp}{f:Fr}{H:A6}
theorem Fy{φ:AY}(h:C4 tb Γ a φ):OpS tb Γ (.o a) φ:=h
theorem s_k{j:Nat}{φ:AY}(hj:AQ Γ.ss j=some (.keep φ)):OpS tb Γ (.k j) φ:=fun _ _ _ _ _ I=>(I.slots j _ hj).1
theorem Cd{g:Nat}{xs:List AO}{l:List ZT}(hl:l=xs.map .o):TW tb Γ (.call g xs) g l:=by
 intro E rv fp f H I;subst hl;simp only[BA,j0];rfl
theorem Ej{g:Nat}{x:AO}{xs:List AO}{js ks:List Nat}{l:List ZT}(ha:C4 tb Γ x (.fnv (.func g) js ks))(hl:l=js.map .k++xs.map .o++ks.map .k):TW tb Γ (.callv x xs) g l:=by
 intro E rv fp f H I;subst hl;simp only[BA,(ha E rv fp f H I).2,df,j0];rfl
theorem lS.spec(I:B5 E Γ rv fp f H): ∀{l:List ZT} {r:List AY},lS tb Γ l r→yF rv Γ.ss (Pf E Γ.ss fp H) H r (l.map (pE tb f rv))
 |_,_, .nil=>trivial
 |_,_, .cons h k=>⟨h E rv fp f H I,k.spec I⟩
def Zg:Nat→List AY→Ts
 |_,[]=>[]
 |k,φ::r=>(k,φ)::Zg (k+1) r
def LU(vs:List AV)(k:Nat):Fr:=(vs.zipIdx k).map fun p=>(p.2,p.1)
theorem XG{P:Nat→Prop}{ss:Ss}: ∀{r:List AY} {vs:List AV} {k:Nat},yF rv ss P H r vs→ ∀t φ,BP (Zg k r) t=some φ→k≤t∧FR rv ss P H φ (get (LU vs k) t)
 |[],[],_,_,t,φ,e=>by simp[Zg,BP]at e
 |ψ::r,v::vs,k,h,t,φ,e=>by
  simp only[Zg,BP]at e;simp only[LU,kn,bh,get]
  split at e
  ·rename_i hk;cases e;subst hk;exact⟨bc _,by rw[t6 rfl];exact h.1⟩
  ·rename_i hk;obtain⟨h1,h2⟩:=XG (k:=k+1) h.2 t φ e;exact⟨by omega,by rw[t7 hk];exact h2⟩
def G6(J:Nat):Ts→Ss→Ss
 |[],ss=>ss
 |(t,φ)::r,ss=>(J+t, .ghost φ)::G6 J r ss
def Rz(Γ:Cx)(J:Nat):Ts→Prop
 |[]=>True
 |(t,φ)::r=>(BP Γ.ts t=some φ∧AQ Γ.ss (J+t)=none)∧Rz Γ J r
def J6(J:Nat):Ss→Bool
 |[]=>true
 |(j, .ghost _)::r=>kh j J&&J6 J r
 |_::r=>J6 J r
theorem R0{J:Nat}: ∀{ss:Ss} {j:Nat} {φ:AY},J6 J ss=true→AQ ss j=some (.ghost φ)→j<J
 |[],_,_,_,e=>by simp[AQ]at e
 |(u,S)::r,j,φ,h,e=>by
  simp only[AQ]at e
  split at e
  ·rename_i hu;cases e;simp only[J6,af]at h;have:=h.1;rw[XD]at this;omega
  ·refine R0 (ss:=r) ?_ e;cases S<;>simp only[J6,af]at h<;>first|exact h.2|exact h
theorem Mr{J:Nat}{ss:Ss}: ∀{l:Ts} {j:Nat},AQ (G6 J l ss) j=AQ ss j∨ ∃t φ,j=J+t∧BP l t=some φ∧AQ (G6 J l ss) j=some (.ghost φ)
 |[],_=> .inl rfl
 |(t,φ)::r,j=>by
  simp only[G6,AQ]
  by_cases hj:J+t=j
  ·rw[t6 hj];exact .inr ⟨t,φ,hj.symm,by simp[BP],rfl⟩
  ·rw[t7 hj];rcases Mr (J:=J) (ss:=ss) (l:=r) (j:=j)with h|⟨t',φ',h1,h2,h3⟩
   ·exact .inl h
   ·refine .inr ⟨t',φ',h1,?_,h3⟩;simp only[BP];rw[t7 (fun e=>hj (by rw[h1,e]))];exact h2
theorem Nm{J:Nat}: ∀{l:Ts} {t:Nat} {φ:AY},Rz Γ J l→BP l t=some φ→BP Γ.ts t=some φ∧AQ Γ.ss (J+t)=none
 |[],_,_,_,e=>by simp[BP]at e
 |(u,ψ)::r,t,φ,h,e=>by
  simp only[BP]at e
  split at e
  ·rename_i hu;cases e;subst hu;exact h.1
  ·exact Nm h.2 e
theorem B5.enter(I:B5 E Γ rv fp f H){J:Nat}{L:Ts}{srcs:List ZT}{φs:List AY}(hL:Rz Γ J L)(hg:J6 J Γ.ss=true)(ha:lS tb Γ srcs φs):
  B5 {E with g:=fun j=>if J≤j then get f (j-J)else E.g j} ⟨Zg 0 φs,G6 J L Γ.ss⟩ rv fp (LU (srcs.map (pE tb f rv)) 0) H:=by
 have hlv: ∀k,Bn (G6 J L Γ.ss) k↔Bn Γ.ss k:=by
  intro k;rcases Mr (J:=J) (ss:=Γ.ss) (l:=L) (j:=k)with h|⟨t,φ,rfl,h2,h3⟩
  ·simp only[Bn,h]
  ·have:=(Nm hL h2).2;simp only[Bn,h3,this,liveO]
 have hkeep: ∀k,Dw (AQ (G6 J L Γ.ss) k)=Dw (AQ Γ.ss k):=by
  intro k;rcases Mr (J:=J) (ss:=Γ.ss) (l:=L) (j:=k)with h|⟨t,φ,rfl,h2,h3⟩
  ·rw[h]
  ·rw[h3,(Nm hL h2).2];rfl
 have hP: ∀i,Pf E Γ.ss fp H i→Pf E (G6 J L Γ.ss) fp H i:=fun i=>q8 fun k l=>(hlv k).1 l;have hFR: ∀φ v,FR rv Γ.ss (Pf E Γ.ss fp H) H φ v→FR rv (G6 J L Γ.ss) (Pf E (G6 J L Γ.ss) fp H) H φ v:=fun φ v h=>
  h.mono (fun i hi=>⟨hP i hi,rfl⟩) fun k _ l=>⟨⟨(hlv k).2 l,fun e=>by rw[hkeep];exact e⟩,rfl⟩
 have hFRs: ∀{l:List AY} {vs:List AV},yF rv Γ.ss (Pf E Γ.ss fp H) H l vs→yF rv (G6 J L Γ.ss) (Pf E (G6 J L Γ.ss) fp H) H l vs:=by
  intro l
  induction l with
  |nil=>intro vs h;cases vs<;>exact h
  |cons φ l ih=>
   intro vs h;cases vs with
   |nil=>exact h
   |cons v vs=>exact⟨hFR φ v h.1,ih h.2⟩
 refine⟨I.le,I.base,I.wf,fun j i l e=>I.fplt j i ((hlv j).1 l) e,fun j l=>I.rvlt j ((hlv j).1 l),fun j l=>(I.scal j ((hlv j).1 l)).imp (fun e=>by rw[hkeep];exact e) id,fun j k i l l'=>I.inj j k i ((hlv j).1 l) ((hlv k).1 l'),?_,?_,?_⟩
 ·intro j S e;rcases Mr (J:=J) (ss:=Γ.ss) (l:=L) (j:=j)with h|⟨t,φ,rfl,h2,h3⟩
  ·replace e:AQ (G6 J L Γ.ss) j=some S:=e
   rw[h]at e;exact(I.slots j S e).keep rfl rfl (fun i hi=>⟨hP i hi,rfl⟩) (bc _) (fun _ _=>rfl) (fun _ _ _ _ k _ l=>⟨⟨(hlv k).2 l,fun e=>by rw[hkeep];exact e⟩,rfl⟩) (fun _ _ k _ l=>⟨⟨(hlv k).2 l,fun e=>by rw[hkeep];exact e⟩,rfl⟩) (fun _ _ _ k _ l=>⟨⟨(hlv k).2 l,fun e=>by rw[hkeep];exact e⟩,rfl⟩)
  ·replace e:AQ (G6 J L Γ.ss) (J+t)=some S:=e
   rw[h3]at e;cases e;trivial
 ·intro t φ e;exact(XG (hFRs (ha.spec I)) t φ e).2
 ·intro j φ e;show FR rv (G6 J L Γ.ss) _ H φ (if J≤j then get f (j-J)else E.g j);rcases Mr (J:=J) (ss:=Γ.ss) (l:=L) (j:=j)with h|⟨t,ψ,rfl,h2,h3⟩
  ·replace e:AQ (G6 J L Γ.ss) j=some (.ghost φ):=e
   rw[h]at e;have:=R0 hg e;rw[t7 (by omega)];exact hFR φ _ (I.gh j φ e)
  ·replace e:AQ (G6 J L Γ.ss) (J+t)=some (.ghost φ):=e
   rw[h3]at e;cases e;rw[t6 (by omega),show J+t-J=t by omega];exact hFR _ _ (I.temps t _ (Nm hL h2).1)
def QIn{τ:Type}(res:List KZ)(Γr:τ→Cx):OC τ:=fun E p e f H=>
 (e= .ret∨e= .normal)∧ ∃vs,results f H res=some vs∧Rel E (Γr p) (LU vs 0) H
def ResG(Γ:Cx)(a:KZ)(φ:AY):Prop:= ∀E rv fp f H,B5 E Γ rv fp f H→ ∀r vs,results f H r=some vs→ ∃v,results f H (a::r)=some (v::vs)∧FR rv Γ.ss (Pf E Γ.ss fp H) H φ v
inductive Ab7(Γ:Cx):List KZ→List AY→Prop where
 |nil:Ab7 Γ [] []
 |cons {a:KZ} {φ:AY} {l:List KZ} {r:List AY}:ResG Γ a φ→Ab7 Γ l r→Ab7 Γ (a::l) (φ::r)
theorem Ab7.spec(I:B5 E Γ rv fp f H): ∀{l:List KZ} {r:List AY},Ab7 Γ l r→ ∃vs,results f H l=some vs∧yF rv Γ.ss (Pf E Γ.ss fp H) H r vs
 |_,_, .nil=>⟨[],rfl,trivial⟩
 |_,_, .cons h k=>by
  obtain⟨vs,e,g⟩:=k.spec I;obtain⟨v,e',g'⟩:=h E rv fp f H I _ vs e;exact⟨v::vs,e',g',g⟩
theorem IB{n:Nat}{φ:AY}(h:BP Γ.ts n=some φ):ResG Γ (.tmp n) φ:=fun _ _ _ _ _ I r vs hr=>⟨_,by simp only[results,hr,ak],I.temps n _ h⟩
theorem rg_c{t:T}{x:t.α}{ar:KZ}(h:ResF Γ ar t x):ResG Γ ar (.val t x):=h
variable{ks:List Kf}{ρ τ:Type}{Q:OC ρ}
def AL{res:List KZ}{Γr:τ→Cx}{φs:List AY}(p:τ)(h:Ab7 Γ res φs)(hs:Sub (Γr p) ⟨Zg 0 φs,Γ.ss⟩):Aa tb Γ .ret ks (QIn res Γr):=
 TT ⟨some p,fun E f H ⟨rv,fp,I⟩ r hr=>by
  cases hr;obtain⟨vs,e,g⟩:=h.spec I;refine⟨.ret,f,H,by simp[Bp,I9], .inl rfl,vs,e,rv,fp,B5.sub (Γ:=⟨Zg 0 φs,Γ.ss⟩) ?_ hs⟩;exact⟨I.le,I.base,I.wf,I.fplt,I.rvlt,I.scal,I.inj,I.slots,fun t φ e=>(XG g t φ e).2,I.gh⟩⟩
def oT{q:Bool}{res:List KZ}{Γr:τ→Cx}{φs:List AY}(p:τ)(h:Ab7 Γ res φs)(hs:Sub (Γr p) ⟨Zg 0 φs,Γ.ss⟩):Aa tb Γ (rg q []) [] (QIn res Γr):=
 ⟨some p,fun E f H ⟨rv,fp,I⟩ r hr=>by
  cases hr;obtain⟨vs,e,g⟩:=h.spec I;refine⟨.normal,f,H,by simp[DL,I9], .inr rfl,vs,e,rv,fp,B5.sub (Γ:=⟨Zg 0 φs,Γ.ss⟩) ?_ hs⟩;exact⟨I.le,I.base,I.wf,I.fplt,I.rvlt,I.scal,I.inj,I.slots,fun t φ e=>(XG g t φ e).2,I.gh⟩⟩
inductive XQ(tsr:Ts):Nat→AY→Prop where
 |none:XQ tsr 0 (.tup [])
 |one {φ:AY}:BP tsr 0=some φ→XQ tsr 1 φ
 |vals {n:Nat} {l:List (Σ t:T,t.α)} (hn:l.length=n+2) (h: ∀(i:Nat) (p: Σ t:T,t.α),l[i]? =some p→BP tsr i=some (.val p.1 p.2)):XQ tsr (n+2) (.tup l)
 |kvs {n:Nat} {js:List Nat} (hn:js.length=n+2) (h: ∀i j,js[i]? =some j→BP tsr i=some (.kv j)):XQ tsr (n+2) (.tupk js)
 |junk {n:Nat}:XQ tsr n .junk
theorem T1{vs:List AV}{i:Nat}{v:AV}(h:vs[i]? =some v):get (LU vs 0) i=v:=by
 have key: ∀(vs:List AV) (k i:Nat) (v:AV),vs[i]? =some v→get (LU vs k) (k+i)=v:=by
  intro vs
  induction vs with
  |nil=>intro k i v h;simp at h
  |cons w vs ih=>
   intro k i v h;simp only[LU,kn,bh,get];cases i with
   |zero=>simp only[bw,ae]at h;rw[t6 (by omega)];exact h
   |succ i=>
    rw[t7 (by omega)];have:=ih (k+1) i v (by simpa using h);rw[show k+(i+1)=k+1+i by omega];exact this
 have:=key vs 0 i v h
 rwa [dc]at this
theorem XQ.spec{Γr:Cx}{n:Nat}{φ:AY}{vs:List AV}(I:B5 E Γr rv fp (LU vs 0) H)(hn:vs.length=n)(h:XQ Γr.ts n φ):FR rv Γr.ss (Pf E Γr.ss fp H) H φ (Gg vs):=by
 cases h with
 |none=>
  have:vs=[]:=c0 hn;subst this;exact⟨[],rfl,trivial⟩
 |one h=>
  match vs,hn with
  |[v],_=>
   have:=I.temps 0 _ h;rw[T1 (i:=0) (v:=v) rfl]at this;exact this
 | @vals m l hl h=>
  have hp:Gg vs= .tup vs:=by
   match vs,hn with
   |_::_::_,_=>rfl
  rw[hp];refine⟨vs,rfl,?_⟩;have key: ∀(vs:List AV) (l:List (Σ t:T,t.α)),vs.length=l.length→(∀(i:Nat) (v:AV) (p: Σ t:T,t.α),vs[i]? =some v→l[i]? =some p→p.1.V (Pf E Γr.ss fp H) H v p.2)→XJ (Pf E Γr.ss fp H) H vs l:=by
   intro vs
   induction vs with
   |nil=>intro l h _;cases l<;>first|trivial|simp at h
   |cons v vs ih=>
    intro l h g;cases l with
    |nil=>simp at h
    |cons p l=>exact⟨g 0 v p rfl rfl,ih l (by simpa using h) fun i w q a b=>g (i+1) w q (by simpa using a) (by simpa using b)⟩
  refine key vs l (by omega) fun i v p a b=> ?_;have:=I.temps i _ (h i p b);rw[T1 a]at this;exact this
 | @kvs m js hl h=>
  have hp:Gg vs= .tup vs:=by
   match vs,hn with
   |_::_::_,_=>rfl
  rw[hp];have hv:vs=js.map rv:=by
   apply ew;intro i;rcases ef i vs.length with hi|hi
   ·have hj:i<js.length:=by omega
    have:=(I.temps i _ (h i js[i] (ab hj))).2;rw[T1 (ab hi)]at this;rw[ab hi,ge,ab hj,this];rfl
   ·rw[dk hi,dk (by rw[cj];omega)]
  refine⟨fun j hj=> ?_,by rw[hv]⟩;obtain⟨i,hi,rfl⟩:=gm.1 hj;exact(I.temps i _ (h i _ (ab hi))).1 _ (by simp)
 |junk=>trivial
def oL(Γr:Cx)(ss:Ss)(J:Nat):Ts→Prop
 |[]=>True
 |(t,φ)::r=>(AQ Γr.ss (J+t)=some (.ghost φ)∧OV ss φ)∧oL Γr ss J r
structure B1(Γr Γk:Cx)(J:Nat)(d:Option Nat)(n:Nat):Prop where
 ss:subS Γr Γk.ss Γk.ss
 gl:J6 J Γk.ss=true
 ts:match d with
  |none=>oL Γr Γk.ss J Γk.ts
  |some d=> ∃φ r,Γk.ts=(d,φ)::r∧XQ Γr.ts n φ∧OV Γk.ss φ∧oL Γr Γk.ss J r
theorem AM{Γr:Cx}{ss:Ss}{J d n:Nat}{φ:AY}{r:Ts}(h1:subS Γr ss ss)(h2:J6 J ss=true)(h3:XQ Γr.ts n φ)(h4:OV ss φ)(h5:oL Γr ss J r):B1 Γr ⟨(d,φ)::r,ss⟩ J (some d) n:=⟨h1,h2,φ,r,rfl,h3,h4,h5⟩
theorem iX{Γr:Cx}{ss:Ss}{J:Nat}: ∀{l:Ts} {t:Nat} {φ:AY},oL Γr ss J l→BP l t=some φ→AQ Γr.ss (J+t)=some (.ghost φ)∧OV ss φ
 |[],_,_,_,e=>by simp[BP]at e
 |(u,ψ)::r,t,φ,h,e=>by
  simp only[BP]at e
  split at e
  ·rename_i hu;cases e;subst hu;exact h.1
  ·exact iX h.2 e
theorem B5.back{Γr Γk:Cx}{J n:Nat}{d:Option Nat}{vs:List AV}{f:Fr}(I:B5 {E with g:=fun j=>if J≤j then get f (j-J)else E.g j} Γr rv fp (LU vs 0) H)(hn:vs.length=n)(hb:B1 Γr Γk J d n):
  B5 E Γk rv fp (put f d (Gg vs)) H:=by
 have S:Sub ⟨[],Γk.ss⟩ Γr:=⟨trivial,hb.ss⟩;have I0:=I.sub S;have hlv: ∀k,Bn Γk.ss k→Bn Γr.ss k:=by
  intro k l;cases e:AQ Γk.ss k with
  |none=>simp only[Bn,e]at l;exact l.elim
  |some S=>
   have:=(Ka hb.ss e).1;simp only[Bn,e]at l;simp only[Bn,this];exact l
 have hP: ∀i,Pf E Γr.ss fp H i→Pf E Γk.ss fp H i:=fun i=>q8 hlv;have hsame: ∀φ,OV Γk.ss φ→XL rv rv Γr.ss Γk.ss φ:=fun φ r j hj l=>by
  have hl:=(eM r j hj).1;refine⟨⟨hl,fun e=> ?_⟩,rfl⟩;cases e':AQ Γk.ss j with
  |none=>simp only[Bn,e']at hl;exact hl.elim
  |some S=>rw[(Ka hb.ss e').1]at e;exact e
 have hFR: ∀φ v,OV Γk.ss φ→FR rv Γr.ss (Pf E Γr.ss fp H) H φ v→FR rv Γk.ss (Pf E Γk.ss fp H) H φ v:=fun φ v r h=>h.mono (fun i hi=>⟨hP i hi,rfl⟩) (hsame φ r);have hback: ∀{l:Ts},oL Γr Γk.ss J l→ ∀t φ,BP l t=some φ→FR rv Γk.ss (Pf E Γk.ss fp H) H φ (get f t):=by
  intro l hl t φ e;obtain⟨h1,h2⟩:=iX hl e;have:=I.gh _ _ h1;simp only[t6 (show J≤J+t by omega),show J+t-J=t by omega]at this;exact hFR φ _ h2 this
 refine⟨I0.le,I0.base,I0.wf,I0.fplt,I0.rvlt,I0.scal,I0.inj,I0.slots,?_,?_⟩
 ·intro t φ e;have hts:=hb.ts;cases d with
  |none=>exact hback hts t φ e
  |some d=>
   obtain⟨ψ,r,hr,h1,h2,h3⟩:=hts;rw[hr]at e;simp only[BP]at e;simp only[put,get]
   split at e
   ·rename_i hd;cases e;rw[t6 hd];have h1':=h1.spec I hn;exact hFR _ _ h2 h1'
   ·rename_i hd;rw[t7 hd];exact hback h3 t φ e
 ·intro j φ e;have h1:=R0 hb.gl e;have:=I0.gh j φ e;simp only[t7 (show¬J≤j by omega)]at this;exact this
structure AbB(tb:CV){τ:Type}(Γk:τ→Cx)(c:AC)(ks:List Kf){ρ:Type}(Q:OC ρ) where
 m:τ→Option ρ
 ok: ∀p E f H,Rel E (Γk p) f H→ ∀r,m p=some r→ ∃e f' H',(Bp tb (C3 tb) c f H).bind (I9 tb ks)=some (e,f',H')∧Q E r e f' H'
def AbB.one{Γk:τ→Cx}{c:AC}(k:(p:τ)→Aa tb (Γk p) c ks Q):AbB tb Γk c ks Q:=⟨fun p=>(k p).m,fun p=>(k p).ok⟩
def AbB.alt{σ:Type}{Γ1:τ→Cx}{Γ2:σ→Cx}{c:AC}(k1:AbB tb Γ1 c ks Q)(k2:AbB tb Γ2 c ks Q):AbB tb (bd Γ1 Γ2) c ks Q:=
 ⟨bd k1.m k2.m,fun p=>match p with
  | .inl p=>k1.ok p
  | .inr p=>k2.ok p⟩
theorem JG{σ:Type}{Γ1 Δ1:τ→Cx}{Γ2 Δ2:σ→Cx}{J n:Nat}{d:Option Nat}(h1: ∀p,B1 (Γ1 p) (Δ1 p) J d n)(h2: ∀p,B1 (Γ2 p) (Δ2 p) J d n): ∀p,B1 (bd Γ1 Γ2 p) (bd Δ1 Δ2 p) J d n
 | .inl p=>h1 p
 | .inr p=>h2 p
theorem Tg: ∀{l:List KZ} {vs:List AV},results f H l=some vs→vs.length=l.length
 |[],vs,h=>by simp only[results,ae]at h;subst h;rfl
 | .tmp t::r,vs,h=>by
  simp only[results]at h;obtain⟨v,hv,rfl⟩:=aj.1 h;simp[Tg hv]
 | .cell ag n t::r,vs,h=>by
  simp only[results]at h;obtain⟨w,hw,h⟩:=ad.1 h;obtain⟨v,hv,rfl⟩:=aj.1 h;simp[Tg hv]
theorem inl_eq{g:Nat}{fn:Cv}{o:GI}{d:Option Nat}{srcs:List ZT}{φs:List AY}{J n:Nat}{L:Ts}{Γr Γk:τ→Cx}(hf:tb.prim g=none∧tb.fns g=some fn)(hw:fn.warm=true)(hnp:fn.np=srcs.length)(hn:n=fn.res.length)
  (hc:TW tb Γ o g srcs) (ha:lS tb Γ srcs φs) (hL:Rz Γ J L) (hg:J6 J Γ.ss=true) (s:Aa tb ⟨Zg 0 φs,G6 J L Γ.ss⟩ fn.body [] (QIn fn.res Γr)) (hb: ∀p,B1 (Γr p) (Γk p) J d n) (I:B5 E Γ rv fp f H) {p:τ} (hp:s.m=some p):
  ∃v H',BA tb (C3 tb) (eval tb f) H o=some (v,some H')∧Rel E (Γk p) (put f d v) H':=by
 have R:=I.enter (tb:=tb) hL hg ha;obtain⟨e,f',H',h1,h2,vs,h3,rv',fp',h4⟩:=s.ok _ _ _ ⟨_,_,R⟩ p hp;have h1':Bp tb (C3 tb) fn.body (LU (srcs.map (pE tb f rv)) 0) H=some (e,f',H'):=by
  obtain⟨q,hq,h1⟩:=ad.1 h1;rw[hq,←h1];rfl
 have hbody:body tb (C3 tb) fn (srcs.map (pE tb f rv)) H=some (Gg vs,some H'):=by
  have:=RZ (tb:=tb) (h:=H) (fn:=fn) (args:=srcs.map (pE tb f rv)) (by rw[cj,hnp]) rfl h1' h2 h3;rw[this,hw];rfl
 refine⟨Gg vs,H',?_,rv',fp',h4.back (by rw[hn];exact Tg h3) (hb p)⟩;rw[hc E rv fp f H I];simp only[BD,hf.1];rw[R8,hf.2];exact hbody
def Aa.inl{g:Nat}{fn:Cv}{o:GI}{d:Option Nat}{rest:List Bh}{srcs:List ZT}{φs:List AY}{n:Nat}{L:Ts}{Γr:τ→Cx}(J:Nat)(Γk:τ→Cx)(hf:tb.prim g=none∧tb.fns g=some fn)(hw:fn.warm=true)(hnp:fn.np=srcs.length)(hn:n=fn.res.length)
  (hc:TW tb Γ o g srcs) (ha:lS tb Γ srcs φs) (hL:Rz Γ J L) (hg:J6 J Γ.ss=true) (s:Aa tb ⟨Zg 0 φs,G6 J L Γ.ss⟩ fn.body [] (QIn fn.res Γr)) (hb: ∀p,B1 (Γr p) (Γk p) J d n) (k:AbB tb Γk (rg false rest) ks Q):Aa tb Γ (rg false (⟨d,none,o⟩::rest)) ks Q:=
 ⟨s.m.bind k.m,fun E f H ⟨rv,fp,I⟩ r hr=>by
  obtain⟨p,hp,hr⟩:=ad.1 hr;obtain⟨v,H',h1,h2⟩:=inl_eq hf hw hnp hn hc ha hL hg s hb I hp;obtain⟨e,f',H2,h4,h5⟩:=k.ok p E _ _ h2 r hr;exact⟨e,f',H2,by rw[Mc h1];exact h4,h5⟩⟩
def A0.inl{g:Nat}{fn:Cv}{o:GI}{d:Option Nat}{rest:List Bh}{w:List (Option (Nat×Nat))}{N k:Nat}{B:List Ob}{C C':List Cb}{srcs:List ZT}{φs:List AY}{n:Nat}{L:Ts}{Γr:τ→Cx}(hq:xE B C' d=true)(hcn:LO Γ k C C')(J:Nat)(Γk:τ→Cx)(hO: ∀p,bU tb (Γk p) B)(hf:tb.prim g=none∧tb.fns g=some fn)(hw:fn.warm=true)(hnp:fn.np=srcs.length)(hn:n=fn.res.length)
  (hc:TW tb Γ o g srcs) (ha:lS tb Γ srcs φs) (hL:Rz Γ J L) (hg:J6 J Γ.ss=true) (s:Aa tb ⟨Zg 0 φs,G6 J L Γ.ss⟩ fn.body [] (QIn fn.res Γr)) (hb: ∀p,B1 (Γr p) (Γk p) J d n) (t:(p:τ)→A0 tb (Γk p) N (k+1) (rW B) C' rest w ks Q):A0 tb Γ N k B C (⟨d,none,o⟩::rest) (none::w) ks Q:=
 C2 hq hO hcn (a:=s.m) (Γ':=Γk) (fun E rv fp f H I p hp=>by
  obtain⟨v,H',h1,rv',fp',h2⟩:=inl_eq hf hw hnp hn hc ha hL hg s hb I hp;exact⟨v,some H',h1,rv',fp',h2⟩) t
structure jJ(tb:CV){τ:Type}(Γk:τ→Cx)(N k:Nat)(B:List Ob)(C:List Cb)(l:List Bh)(w:List (Option (Nat×Nat)))(ks:List Kf){ρ:Type}(Q:OC ρ) where
 m:τ→Option ρ
 ok: ∀p E f H,Rel E (Γk p) f H→ ∀ms,yE f B ms→ ∀es,CR f C es→ ∀r,m p=some r→ ∃q e f' H',Hn tb (C3 tb) N k ms es l w f H q∧I9 tb ks (.normal,q.1,q.2)=some (e,f',H')∧Q E r e f' H'
def jJ.one{Γk:τ→Cx}{N k:Nat}{B:List Ob}{C:List Cb}{l:List Bh}{w:List (Option (Nat×Nat))}(t:(p:τ)→A0 tb (Γk p) N k B C l w ks Q):jJ tb Γk N k B C l w ks Q:=⟨fun p=>(t p).m,fun p=>(t p).ok⟩
def jJ.alt{σ:Type}{Γ1:τ→Cx}{Γ2:σ→Cx}{N k:Nat}{B:List Ob}{C:List Cb}{l:List Bh}{w:List (Option (Nat×Nat))}(k1:jJ tb Γ1 N k B C l w ks Q)(k2:jJ tb Γ2 N k B C l w ks Q):jJ tb (bd Γ1 Γ2) N k B C l w ks Q:=
 ⟨bd k1.m k2.m,fun p=>match p with
  | .inl p=>k1.ok p
  | .inr p=>k2.ok p⟩
def oS{g:Nat}{fn:Cv}{o:GI}{d:Option Nat}{rest:List Bh}{w:List (Option (Nat×Nat))}{N k:Nat}{B:List Ob}{C C':List Cb}{srcs:List ZT}{φs:List AY}{n:Nat}{L:Ts}{Γr:τ→Cx}(hq:xE B C' d=true)(hcn:LO Γ k C C')(J:Nat)(Γk:τ→Cx)(hO: ∀p,bU tb (Γk p) B)(hf:tb.prim g=none∧tb.fns g=some fn)(hw:fn.warm=true)(hnp:fn.np=srcs.length)(hn:n=fn.res.length)
  (hc:TW tb Γ o g srcs) (ha:lS tb Γ srcs φs) (hL:Rz Γ J L) (hg:J6 J Γ.ss=true) (s:Aa tb ⟨Zg 0 φs,G6 J L Γ.ss⟩ fn.body [] (QIn fn.res Γr)) (hb: ∀p,B1 (Γr p) (Γk p) J d n) (t:jJ tb Γk N (k+1) (rW B) C' rest w ks Q):A0 tb Γ N k B C (⟨d,none,o⟩::rest) (none::w) ks Q:=
 ⟨s.m.bind t.m,(A0.inl hq hcn J Γk hO hf hw hnp hn hc ha hL hg s hb fun p=>⟨t.m p,t.ok p⟩).ok⟩
inductive jF(tb:CV)(Γ:Cx):(As:List T)→List ZT→BG As→Prop where
 |nil:jF tb Γ [] [] ()
 |one {t:T} {s:ZT} {x:t.α}:OpS tb Γ s (.val t x)→jF tb Γ [t] [s] x
 |cons {t u:T} {As:List T} {s:ZT} {l:List ZT} {x:t.α} {y:BG (u::As)}:OpS tb Γ s (.val t x)→jF tb Γ (u::As) l y→jF tb Γ (t::u::As) (s::l) (x,y)
theorem jF.spec(R:B5 E Γ rv fp f H): ∀{As:List T} {l:List ZT} {x:BG As},jF tb Γ As l x→Vl (Pf E Γ.ss fp H) H As (l.map (pE tb f rv)) x
 |_,_,_, .nil=>rfl
 |_,_,_, .one h=>⟨_,rfl,h E rv fp f H R⟩
 |_,_,_, .cons h k=>⟨_,_,rfl,h E rv fp f H R,k.spec R⟩
theorem h_callS{g:Nat}{As Rs:List T}{F:BG As→Option (BG Rs)}{o:GI}{l:List ZT}{x:BG As}(sp:Spec tb g As Rs F)(hc:TW tb Γ o g l)(hx:jF tb Γ As l x):EG tb Γ o (F x) fun r=>zF Rs r:=by
 intro E rv fp f H R r hr;obtain⟨v,u,h1,h2,h3⟩:=(sp (Pf E Γ.ss fp H) H _ x R.ltP R.wf (hx.spec R) r hr).call;exact⟨v,u,by rw[hc E rv fp f H R];exact h1,h2,WM h3⟩
theorem Tu{g:Nat}{As:List T}{t:T}{F:BG As→Option (BG [t])}{o:GI}{l:List ZT}{x:BG As}(sp:Spec tb g As [t] F)(hc:TW tb Γ o g l)(hx:jF tb Γ As l x):EG tb Γ o (F x) fun r:t.α=> .val t r:=h_callS sp hc hx
theorem Mq{g:Nat}{As:List T}{t u:T}{Rs:List T}{F:BG As→Option (BG (t::u::Rs))}{o:GI}{l:List ZT}{x:BG As}(sp:Spec tb g As (t::u::Rs) F)(hc:TW tb Γ o g l)(hx:jF tb Γ As l x):EG tb Γ o (F x) fun r=> .tup (tupL (t::u::Rs) r):=h_callS sp hc hx
end
end
section
section
variable{tb:CV}{Γ:Cx}{a b:AO}{E:QS}{rv:Nat→AV}{fp:Fp}{f:Fr}{H:A6}{ks:List Kf}{ρ:Type}{Q:OC ρ}
end
end
section
theorem Rk{tb:CV}{q:Bool}{g:Nat}{w:Bool}{R:List Bh}: ∀{l:List Bh} {f:Fr} {H:A6},get f g= .b w→g∉GB l→Bp tb (C3 tb) (rg q (l.map (gd g w)++R)) f H=Bp tb (C3 tb) (rg q (l++R)) f H
 |[],_,_,_,_=>rfl
 |o::l,f,H,h,hn=>by
  have hd:o.d≠some g:=fun e=>hn (by simp[GB,e]);have hn':g∉GB l:=fun e=>hn (by
   simp only[GB,gx]at e ⊢;cases o.d<;>simp[e])
  have hwt:wanted f (gd g w o).g=wanted f o.g:=by
   cases ho:o.g with
   |none=>simp[gd,ho,wanted,h]
   |some p=>simp[gd,ho]
  have hoo:(gd g w o).o=o.o:=by cases ho:o.g<;>simp[gd,ho]
  have hod:(gd g w o).d=o.d:=by cases ho:o.g<;>simp[gd,ho]
  have ih: ∀v H',Bp tb (C3 tb) (rg q (l.map (gd g w)++R)) (put f o.d v) H'=Bp tb (C3 tb) (rg q (l++R)) (put f o.d v) H':=fun v H'=>Rk (by rw[wanted_put (w:=w) hd];exact h) hn';cases q with
  |true=>
   have ih': ∀v H',Jm tb (C3 tb) H' (l.map (gd g w)++R) (put f o.d v)=Jm tb (C3 tb) H' (l++R) (put f o.d v):=fun v H'=>by
    have:=ih v H';simp only[rg,uc,Bp]at this;cases h1:Jm tb (C3 tb) H' (l.map (gd g w)++R) (put f o.d v)<;>cases h2:Jm tb (C3 tb) H' (l++R) (put f o.d v)<;>simp_all
   simp only[rg,uc,Bp,bh,cd,Jm,hwt,hoo,hod,ih']
  |false=>
   have ih': ∀v H',ops tb (C3 tb) (l.map (gd g w)++R) (put f o.d v) H'=ops tb (C3 tb) (l++R) (put f o.d v) H':=fun v H'=>by
    have:=ih v H';simp only[rg,ah,ud,Bp]at this;cases h1:ops tb (C3 tb) (l.map (gd g w)++R) (put f o.d v) H'<;>cases h2:ops tb (C3 tb) (l++R) (put f o.d v) H'<;>simp_all [Prod.ext_iff]
   simp only[rg,ah,ud,Bp,bh,cd,ops,hwt,hoo,hod,ih']
section
variable{tb:CV}{Γ:Cx}{a b:AO}{ks:List Kf}{ρ:Type}{Q:OC ρ}
def Aa.andI{q:Bool}{L l rest:List Bh}{g t d:Nat}{b:Bool}(Γk:Cx)(n:Nat)(og:BP Γ.ts g=some (.val du b))(h:Lp g true n L=some (l,⟨some d,none, .pick (.t g) (.t t) (.k (.b false))⟩::rest))(hc:Xx g l Γ.ts=true)(hs: ∀z,Sub (Γk.push d (.val du z)) (Γ.push d (.val du z)))
  (k:(z:Bool)→Aa tb (Γk.push d (.val du z)) (rg q rest) ks Q)
  (main:((z:Bool)→Aa tb (Γk.push d (.val du z)) (rg q rest) ks Q)→Aa tb (Γ.push g (.val du true)) (rg q (l++⟨some d,none, .pick (.t g) (.t t) (.k (.b false))⟩::rest)) ks Q):Aa tb Γ (rg q L) ks Q:=
 ⟨if b=true then(main k).m else(k false).m,fun E f H ⟨rv,fp,I⟩ r hr=>by
  have hL:=He h;simp only[Xx,af,ck]at hc;obtain⟨hc1,hc2,hc3⟩:=hc;have hg:=FW.1 (I.temps g _ og);have hng:=Kc hc2;cases b with
  |true=>
   obtain⟨e,f',H',h4,h5⟩:=(main k).ok E f H ⟨rv,fp,I.le,I.base,I.wf,I.fplt,I.rvlt,I.scal,I.inj,I.slots,fun u φ e=>by
    simp only[pj,BP]at e
    split at e
    ·rename_i hu;cases e;subst hu;exact FW.2 hg
    ·exact I.temps u φ e,I.gh⟩ r (by simpa using hr)
   exact⟨e,f',H',by rw[hL,Rk hg hng];exact h4,h5⟩
  |false=>
   obtain⟨f',h1,h2⟩:=Rg (tb:=tb) (q:=q) (w:=true) (H:=H) hg hng hc1 (by simp);have hp:BA tb (C3 tb) (eval tb f') H (.pick (.t g) (.t t) (.k (.b false)))=some (.b false,none):=by
    simp only[BA,eval,h2 g hng,hg];rfl
   have I':B5 E Γ rv fp f' H:=I.fr fun u φ e=>h2 u (I4 hc3 e);obtain⟨e,f2,H2,h4,h5⟩:=(k false).ok E _ H ⟨rv,fp,(Zz I').sub (hs _)⟩ r (by simpa using hr);exact⟨e,f2,H2,by rw[hL,FB h1,EM hp rfl];exact h4,h5⟩⟩
theorem PC{n:Nat}{t:T}{zero:List AV}{ps:List (Nat×Nat×AO)}(z:Ar t.α n)(hz:zero=(aw n t).zc)(h:AbE tb Γ (aw n t) ps (aw n t).z z):EG tb Γ (.bld zero ps) (some ()) fun _=> .val (aw n t) z:=by
 rintro E rv fp f H R _ ⟨⟩;exact Ch hz rfl h E rv fp f H R z rfl
theorem Q8{sz:Nat}: ∀{l:List (List AV)} {i:Nat},(∀e∈l,e.length=sz)→i≤l.length→l.flatten.take (i*sz)=(l.take i).flatten∧l.flatten.drop (i*sz)=(l.drop i).flatten
 |l,0,_,_=>by simp
 |[],i+1,_,h=>by simp at h
 |d::l,i+1,hl,h=>by
  have h1:=hl d bg;obtain⟨a,b⟩:=Q8 (l:=l) (i:=i) (fun e he=>hl e (a8 _ he)) (by simpa using h);have hs:(i+1)*sz=d.length+i*sz:=by rw[ci];omega
  constructor
  ·rw[bz,hs,jq,au (by omega),iq,a];simp
  ·rw[bz,hs,←cw,fh rfl,b];simp
theorem AaD{sz k m:Nat}{l:List (List AV)}(hl: ∀e∈l,e.length=sz)(h:k+m≤l.length):sub l.flatten (k*sz) (m*sz)=((l.drop k).take m).flatten:=by
 simp only[sub];rw[(Q8 hl (i:=k) (by omega)).2,(Q8 (fun e he=>hl e (cz he)) (i:=m) (by rw[bk];omega)).1]
theorem vO{sz:Nat}{l:List (List AV)}(hl: ∀e∈l,e.length=sz):l.flatten.length=l.length*sz:=by
 induction l with
 |nil=>simp
 |cons d l ih=>
  have:=ih fun e he=>hl e (a8 _ he);have:=hl d bg;simp only[bz,an,ba,ci];omega
theorem rC{sz i:Nat}{l dss:List (List AV)}(hl: ∀e∈l,e.length=sz)(hd: ∀e∈dss,e.length=sz)(h:i+dss.length≤l.length):B7 l.flatten (i*sz) dss.flatten=(l.take i++dss++l.drop (i+dss.length)).flatten:=by
 simp only[B7,gy];rw[(Q8 hl (i:=i) (by omega)).1,vO hd,←ga,(Q8 hl (i:=i+dss.length) h).2]
def Zn(n:Nat)(t:T)(k m:Nat)(hkm:k+m≤n):AN (aw n t) (aw m t) (k*t.sz) where
 get:=fun x=>⟨(x.l.drop k).take m,by rw[aq,bk,x.len];omega⟩
 put:=fun x y=>⟨x.l.take k++y.l++x.l.drop (k+m),by rw[an,an,aq,bk,x.len,y.len];omega⟩
 le:=by
  show k*t.sz+m*t.sz≤n*t.sz;rw[←ga];exact cn _ hkm
 getR:=fun{P H cs x} ⟨css,e,h⟩=>by
  refine⟨(css.drop k).take m,?_,h.drop.take⟩;have hlen:=h.length;have hx:=x.len;rw[e];exact AaD h.lens (by omega)
 putR:=fun{P H cs x c y} ⟨css,e,h⟩ ⟨dss,e',h'⟩=>by
  refine⟨css.take k++dss++css.drop (k+m),?_,(h.take.app h').app h.drop⟩;have hlen:=h.length;have hx:=x.len;have hlen':=h'.length;have hy:=y.len;rw[e,e'];have:=rC (dss:=dss) h.lens h'.lens (i:=k) (by omega);rw[this,show dss.length=m by omega]
theorem YC{j off n sz:Nat}{ps:List (Nat×AY)}{lo hi:Option AO}{l h:Option Int}(hj:AQ Γ.ss j=some (.cells ps))(hle:ou (off+n*sz) (Zx ps)=true)(ha:C4 tb Γ a (.cp j off))(hl:OpO tb Γ lo l)(hh:OpO tb Γ hi h):
  EG tb Γ (.sla n sz a lo hi) (SV n l h) fun p=> .oc j (off+p.1*sz) sz (p.2-p.1):=by
 intro E rv fp f H I p hp;obtain⟨lv,id,e,hv⟩:=ha E rv fp f H I;obtain⟨cs,h0,h2,h3⟩:=GW I hj e;have hs:=q6 h3;have hle:=gz hle;refine⟨.ocel sz id (off+p.1*sz) (p.2-p.1),none,?_,rfl,lv,id,e,rfl⟩;simp only[BA,hv];rw[Zd hl hh I,hp];simp only[aa,xO,h2];rw[t6 (by omega)]
 rfl
theorem PA{j off n sz k m o' c:Nat}{ps:List (Nat×AY)}{lo hi:Option AO}{l h:Option Int}(hj:AQ Γ.ss j=some (.cells ps))(hle:ou (off+n*sz) (Zx ps)=true)(ha:C4 tb Γ a (.cp j off))(hl:OpO tb Γ lo l)(hh:OpO tb Γ hi h)
  (hb:SV n l h=some (k,m)) (ho:off+k*sz=o') (hc:m-k=c):EG tb Γ (.sla n sz a lo hi) (some ()) fun _=> .oc j o' sz c:=by
 rintro E rv fp f H I _ ⟨⟩;subst ho hc;exact YC hj hle ha hl hh E rv fp f H I (k,m) hb
theorem bnd_start{n:Nat}{h:Option Int}{p:Nat×Nat}(e:SV n none h=some p):p.1=0∧p.2≤n:=by
 have h2:=(bnd_le e).2;unfold SV at e;obtain⟨u,hu,e⟩:=ad.1 e;obtain⟨l,hl,e⟩:=ad.1 e;cases hl;cases e;exact⟨rfl,h2⟩
theorem qX{j off n sz:Nat}{ps:List (Nat×AY)}{hi:Option AO}{h:Option Int}(hj:AQ Γ.ss j=some (.cells ps))(hle:ou (off+n*sz) (Zx ps)=true)(ha:C4 tb Γ a (.cp j off))(hh:OpO tb Γ hi h):
  EG tb Γ (.sla n sz a none hi) ((SV n none h).map fun p=>p.2) fun m=> .oc j off sz m:=by
 intro E rv fp f H I m hm;obtain⟨p,hp,rfl⟩:=aj.1 hm;have:=YC hj hle ha .none hh E rv fp f H I p hp;simp only[(bnd_start hp).1,kc,i6,ny]at this;exact this
theorem h_s2aC{j off len sz n:Nat}(ha:C4 tb Γ a (.oc j off sz len))(hn:ou n len=true):EG tb Γ (.s2a n sz a) (some ()) fun _=> .cp j off:=by
 rintro E rv fp f H I _ ⟨⟩;obtain⟨lv,id,e,hv⟩:=ha E rv fp f H I;have hn:=gz hn;exact⟨.ptr id off,none,by simp only[BA,hv,ZR];rw[t6 ⟨trivial,hn⟩];rfl,rfl,lv,id,e,rfl⟩
theorem h_lenC{j off len sz:Nat}(ha:C4 tb Γ a (.oc j off sz len)):EG tb Γ (.len a) (some (len:Int)) fun n=> .val tv n:=by
 rintro E rv fp f H I _ ⟨⟩;obtain⟨lv,id,e,hv⟩:=ha E rv fp f H I;exact⟨.i .i64 len,none,by simp only[BA,hv,Tq,ak],rfl,BZ.2 rfl⟩
theorem h_iasC{j off len sz:Nat}{k:IntKind}{i:Int}{ps:List (Nat×AY)}(hj:AQ Γ.ss j=some (.cells ps))(hle:off+len*sz≤Zx ps)(ha:C4 tb Γ a (.oc j off sz len))(hb:C4 tb Γ b (.val (am k) i)):
  EG tb Γ (.ias sz a b) (Dl len i) fun m=> .cp j (off+m*sz):=by
 intro E rv fp f H I m hm;obtain⟨h0,rfl,h1⟩:=nM hm;obtain⟨lv,id,e,hv⟩:=ha E rv fp f H I;obtain⟨cs,g0,g2,g3⟩:=GW I hj e;have hs:=q6 g3;have hcl: ∀(n:Nat) (l:List AV),(BV sz n l).length=n:=by
  intro n
  induction n with
  |zero=>intro l;rfl
  |succ n ih=>intro l;simp[BV,ih]
 refine⟨.ptr id (off+i.toNat*sz),none,?_,rfl,lv,id,e,rfl⟩;simp only[BA,hv,BZ.1 (hb E rv fp f H I),Ir,aa,t6 h0,WY,EX,g2];rw[t6 ⟨trivial,by omega⟩];simp only[aa,hcl];rw[t6 (by omega)]
 rfl
theorem JS{j off len sz:Nat}{k:IntKind}{i:Int}{ps:List (Nat×AY)}(N:Nat)(hj:AQ Γ.ss j=some (.cells ps))(hN:N=Zx ps)(ha:C4 tb Γ a (.oc j off sz len))(hb:C4 tb Γ b (.val (am k) i)):
  EG tb Γ (.ias sz a b) (if off+len*sz≤N then Dl len i else none) fun m=> .cp j (off+m*sz):=by
 intro E rv fp f H I m hm
 split at hm
 ·rename_i hle;exact h_iasC hj (hN▸hle) ha hb E rv fp f H I m hm
 ·cases hm
theorem B5.learn{E:QS}{rv:Nat→AV}{fp:Fp}{f:Fr}{H:A6}(I:B5 E Γ rv fp f H){d:Nat}{φ:AY}(h:FR rv Γ.ss (Pf E Γ.ss fp H) H φ (get f d)):B5 E (Γ.push d φ) rv fp f H:=
 ⟨I.le,I.base,I.wf,I.fplt,I.rvlt,I.scal,I.inj,I.slots,fun t ψ e=>by
  simp only[pj,BP]at e
  split at e
  ·rename_i hd;cases e;subst hd;exact h
  ·exact I.temps t ψ e,I.gh⟩
def frzO{α:Type}(l:List α)(k m n:Nat):Option (GS α):=if k+m≤n then some (.mk ((l.drop k).take m))else none
theorem B5.frzSl{E:QS}{rv:Nat→AV}{fp:Fp}{f:Fr}{H:A6}(I:B5 E Γ rv fp f H){j N o k m n sz d:Nat}{t u:T}{x:t.α}{g:GS u.α}(F:AN t (aw n u) o)(hsz:sz=u.sz)(hj:AQ Γ.ss j=some (.cells [(N, .val t x)]))(hn:kh j Ld=true)
  (hd:BP Γ.ts d=some (.oc j (o+k*sz) sz m)) (hg:frzO (F.get x).l k m n=some g):B5 E ((Γ.turn j (sC t x)).push d (.val (db u) g)) rv fp f H:=by
 have hlj:Bn Γ.ss j:=Kz hj rfl;have hs:=I.slots j _ hj;obtain⟨_,id,e,hv⟩:=I.temps d _ hd;obtain⟨id',cs,h3,h0,h4,c,e',h5,h6,h7,h8⟩:=hs;rw[e]at h3;cases h3;have h8':e'=[]:=h8;subst h8';simp only[ei]at h5;subst h5;simp only[frzO]at hg
 split at hg
 ·rename_i hkm;cases hg;have hlen:=t.len h7;have hle:=F.le;have J:=I.frzCell hj hn;have hlv: ∀k,Bn (Γ.turn j (sC t x)).ss k↔k≠j∧Bn Γ.ss k:=Up;subst hsz;have hk:=(h0 id).2 rfl;have hPid:Pf E (Γ.turn j (sC t x)).ss fp H id:=Pf.gone I hlj hk (fun k lk=>(hlv k).1 lk) (I.new hlj hn id hk);have hr:=t.mono (G:=H) (fun i hi=>⟨q8 (ss':=(Γ.turn j (sC t x)).ss) (fun k l=>((hlv k).1 l).2) hi,rfl⟩) h7;obtain⟨css,e1,e2⟩:=F.getR hr;have hszA:(aw n u).sz=n*u.sz:=rfl;have hwhole:ST u (Pf E (Γ.turn j (sC t x)).ss fp H) H (.ocel u.sz id o n) (.mk (F.get x).l):=by
   refine⟨hPid,css,?_,e2⟩;simp only[EX,h4,aa];rw[t6 ⟨trivial,by omega⟩];congr 1;have key: ∀(k:Nat) (css:List (List AV)) (cs:List AV),css.length=k→(∀e∈css,e.length=u.sz)→cs.take (k*u.sz)=css.flatten→BV u.sz k cs=css:=by
    intro k
    induction k with
    |zero=>intro css cs h _ _;rw[c0 h];rfl
    |succ k ih=>
     intro css cs hk hall hc
     match css,hk with
     |y::css,hk=>
      have hy:=hall y (by simp);simp only[BV];simp only[bz]at hc;have hA:cs.take u.sz=y:=by
       have:=ue (ra u.sz) hc;rw[kp,fq (by rw[ci];omega),ij hy]at this;exact this
      have hB:(cs.drop u.sz).take (k*u.sz)=css.flatten:=by
       have:=ue (List.drop u.sz) hc;rw[fh hy,ic,ci,oe]at this;exact this
      rw[hA,ih css (cs.drop u.sz) (by simpa using hk) (fun e he=>hall e (by simp[he])) hB]
   exact key n css (cs.drop o) (by rw[e2.length];exact(F.get x).len) e2.lens (by rw[←e1];rfl)
  have hlenx:(F.get x).l.length=n:=(F.get x).len;obtain⟨w,h9,h10⟩:=hwhole.resl (c:=k) (d:=k+m) (by omega) (by simp only[qn];omega);have hw:Am.resl H u.sz (.ocel u.sz id o n) k (k+m)=some (.ocel u.sz id (o+k*u.sz) m):=by simp[Am.resl]
  rw[hw]at h9;cases h9;refine J.learn ?_;rw[hv];have:Yz (GS.mk (F.get x).l) k (k+m)= .mk (((F.get x).l.drop k).take m):=by simp[Yz,ic]
  rw[this]at h10;exact JY.2 h10
 ·cases hg
def Aa.frzSl{c:AC}{j N o k m n sz:Nat}(d:Nat){t u:T}{x:t.α}(F:AN t (aw n u) o)(hsz:sz=u.sz)(hj:AQ Γ.ss j=some (.cells [(N, .val t x)]))(hn:kh j Ld=true)
  (hd:BP Γ.ts d=some (.oc j (o+k*sz) sz m)) (s:(g:GS u.α)→Aa tb ((Γ.turn j (sC t x)).push d (.val (db u) g)) c ks Q):Aa tb Γ c ks Q:=
 ⟨(frzO (F.get x).l k m n).bind fun g=>(s g).m,fun E f H ⟨rv,fp,I⟩ r hr=>by
  obtain⟨g,hg,hr⟩:=ad.1 hr;exact(s g).ok E f H ⟨rv,fp,I.frzSl F hsz hj hn hd hg⟩ r hr⟩
def bN{α:Type}{n:Nat}(x:Ar α n)(k m:Nat)(ys:List α):Option (Ar α n):=
 if h:k+m≤n then some ⟨x.l.take k++ys.take m++x.l.drop (k+min ys.length m),by
  rw[an,an,aq,aq,bk,x.len];omega⟩else none
theorem B5.cpy{E:QS}{rv:Nat→AV}{fp:Fp}{f:Fr}{H:A6}(I:B5 E Γ rv fp f H){s t:T}{x:s.α}{n j o o' k sz m N:Nat}{ps:List (Nat×AY)}{ys:List t.α}{z:Ar t.α n}(F:AN s (aw n t) o')(hk:sz=t.sz)
  (ha:C4 tb Γ a (.oc j (o+k*sz) sz m)) (hb:NewL tb Γ b t ys) (hj:AQ Γ.ss j=some (.cells ps)) (hp:Jv ps o=some (N, .val s x,o')) (hz:bN (F.get x) k m ys=some z):
  ∃v H',BA tb (C3 tb) (eval tb f) H (.cpy sz a b)=some (v,some H')∧v= .i .i64 ((min ys.length m:Nat):Int)∧ ∃rv' fp',B5 E (Γ.setS j (.cells (V6 ps o (.val s (F.put x z))))) rv' fp' f H':=by
 subst hk;simp only[bN]at hz
 split at hz
 ·rename_i hkm;cases hz;obtain⟨l,id,e,hv⟩:=ha E rv fp f H I;obtain⟨cs,h0,h2,h3⟩:=GW I hj e;obtain⟨b',c,e0,e1,e2,e3,e4,e5,e6⟩:=FQ h3 hp;obtain⟨els,g1,g2⟩:=hb E rv fp f H I;have hel:=g2.length;have hlens:=(g2.take (n:=m)).lens;have htl:(els.take m).length=min ys.length m:=by rw[aq,hel,py]
  have hfl:=vO hlens;rw[htl]at hfl
  let G:=M3 F (Zn n t k (min ys.length m) (by omega))
  have hle:=G.le;have hszA:(aw (min ys.length m) t).sz=min ys.length m*t.sz:=rfl;have hl:=s.len e4;have hy:(aw (min ys.length m) t).R (Pf E Γ.ss fp H) H (els.take m).flatten ⟨ys.take m,by rw[aq,py]⟩:=⟨els.take m,rfl,g2.take⟩;have hput:=G.putR e4 hy;have hpr:=e6 (o'+k*t.sz) (els.take m).flatten (.val s (G.put x ⟨ys.take m,by rw[aq,py]⟩)) (by rw[hfl];omega) hput;rw[show b'+(o'+k*t.sz)=o+k*t.sz by omega]at hpr;have hmen:=tk I.ltP I.rvlt h3;have hym:=(aw (min ys.length m) t).men hy I.ltP;have hlt':=(I.fplt j id l ((h0 id).2 rfl)).1;have hx:G.put x ⟨ys.take m,by rw[aq,py]⟩=F.put x ⟨(F.get x).l.take k++ys.take m++(F.get x).l.drop (k+min ys.length m),by
    rw[an,an,aq,aq,bk,(F.get x).len];omega⟩:=rfl
  rw[hx]at hpr;obtain⟨rv',fp',_,_,R'⟩:=I.set (j:=j) (S:= .cells (V6 ps o (.val s (F.put x ⟨(F.get x).l.take k++ys.take m++(F.get x).l.drop (k+min ys.length m),by
    rw[an,an,aq,aq,bk,(F.get x).len];omega⟩)))) (v:=rv j) (o:= .cells (EQ H id) (B7 cs (o+k*t.sz) (els.take m).flatten)) (by rw[hj];rfl) l h0 (by simp only[DW];exact Rq hmen hym) rfl (I.rvlt j l) (.inl rfl) (I.scal j l) fun rv' fp' e1 e2 hP hs=>
   ⟨id,_,by rw[e1,e],e2,by simp[BR,hlt'],sa hP (by simp) (fun p _=>hs p.2 (.inl rfl)) hpr⟩
  refine⟨_,H.set id (BU.cells (EQ H id) (B7 cs (o+k*t.sz) (els.take m).flatten)),?_,rfl,rv',fp',R'⟩;have hmn:min els.length m=min ys.length m:=by rw[hel]
  have hbnd:o+k*t.sz+m*t.sz≤cs.length:=by
   have hF:=F.le;have hszF:(aw n t).sz=n*t.sz:=rfl;have:(k+m)*t.sz≤n*t.sz:=cn _ hkm;rw[ga]at this;omega
  simp only[BA,g1,aa,hv,rZ,h2];rw[t6 ⟨trivial,hbnd⟩,hmn];have hte:els.take (min ys.length m)=els.take m:=by
   rw[←hmn];rcases Nat.le_total els.length m with h|h
   ·rw[fq h,au (bc _),au h]
   ·rw[Nat.min_eq_right h]
  rw[hte,B7,hfl]
 ·cases hz
theorem Ab8{s t:T}{x:s.α}{n j o o' k sz m N d:Nat}{ps:List (Nat×AY)}{ys:List t.α}(F:AN s (aw n t) o')(hk:sz=t.sz)
  (ha:C4 tb Γ a (.oc j (o+k*sz) sz m)) (hb:NewL tb Γ b t ys) (hj:AQ Γ.ss j=some (.cells ps)) (hp:Jv ps o=some (N, .val s x,o')):
  UP tb Γ (some d) (.cpy sz a b) (bN (F.get x) k m ys) fun z=>(Γ.setS j (.cells (V6 ps o (.val s (F.put x z))))).push d (.val tv ((min ys.length m:Nat):Int)):=fun E rv fp f H I z hz=>by
 obtain⟨v,H',h1,rfl,rv',fp',h2⟩:=I.cpy F hk ha hb hj hp hz;exact⟨_,some H',h1,rv',fp',h2.push (BZ.2 rfl)⟩
def uD:AY→Bool
 | .own _=>true
 | .rp _ _=>true
 | .cp _ _=>true
 | .ep _ _ _=>true
 | .con _=>true
 | .fnv _ _ _=>true
 | .val t _=> !t.agg
 |_=>false
theorem nB{φ:AY}(h:uD φ=true){E:QS}{rv:Nat→AV}{fp:Fp}{f:Fr}{H:A6}(R:B5 E Γ rv fp f H)(hs:szF Γ.ss φ=some 1){v:AV}(r:FR rv Γ.ss (Pf E Γ.ss fp H) H φ v):
  cellsOf v=[v]∧ment v≤H.length∧ ∀rv ss P H,FC rv ss P H φ [v]↔FR rv ss P H φ v:=by
 obtain⟨g1,g2⟩:=Wn R hs r;have ha:aggF φ=false:=by cases φ<;>first|rfl|(simp only[uD,ah]at h;done)|(simp only[uD,ck]at h;exact h)
 rw[ha]at g2;refine⟨?_,tj R.ltP R.rvlt (by rintro rfl;cases h) r,fun rv ss P H=> ?_⟩
 ·match hc:cellsOf v,g1 with
  |[w],_=>
   rw[hc]at g2;simp only[I1,ae]at g2;rw[g2]
 ·cases φ<;>first
   |(simp only[uD,ah]at h;done)
   |exact⟨fun⟨w,e,r⟩=>by cases e;exact r,fun r=>⟨v,rfl,r⟩⟩
   |exact⟨fun r=> .inr ⟨by simpa [uD]using h,r⟩,fun r=>r.elim (fun⟨e,_⟩=>by simp[uD,e]at h) (fun e=>e.2)⟩
theorem M_stR{φ ψ:AY}{j o:Nat}{ps:List (Nat×AY)}(hs:szF Γ.ss ψ=some 1)(hr:uD ψ=true)(ha:C4 tb Γ a (.cp j o))(hb:C4 tb Γ b ψ)(hj:AQ Γ.ss j=some (.cells ps))(hp:Jv ps o=some (1,φ,0)):
  UP tb Γ none (.st 1 a b) (some ()) fun _=>Γ.setS j (.cells (V6 ps o ψ)):=
 M_st ha hj hp fun E rv fp f H R c hc hN _=>by
  obtain⟨g1,g2,g3⟩:=nB hr R hs (hb E rv fp f H R);rw[g1];refine⟨rfl,by omega,by simpa [Bv]using g2,?_⟩
  match c,hN with
  |[w],_=>exact(g3 _ _ _ _).2 (hb E rv fp f H R)
theorem BX{d t0:Nat}{z:List AV}(j:Nat)(ps:List (Nat×AY))(hz: ∀rv ss P H,PR rv ss P H ps z)(hm:Bv z=0)(hj:AQ Γ.ss j=none):UP tb Γ (some d) (.alloc t0 z) (some ()) fun _=>⟨(d, .cp j 0)::Γ.ts,(j, .cells ps)::Γ.ss⟩:=by
 intro E rv fp f H R _ hz0;obtain⟨rv',fp',h1,h2,h3⟩:=R.more (j:=j) (S:= .cells ps) (v:= .ptr H.length 0) (o:= .cells (some t0) z) (GO hj) (by simp only[DW];omega) rfl (by simp[ment]) rfl fun rv' fp' e1 e2 hP hs=>
  ⟨_,z,e1,e2,by simp[BR],hz _ _ _ _⟩
 exact⟨_,_,rfl,rv',fp',h3.push (φ:= .cp j 0) ⟨h2,_,h1,rfl⟩⟩
theorem h_cvcI{I:IT}{x:I.t.α}(ha:C4 tb Γ a (.val I.t x)):EG tb Γ (.cvc a) (some (jc (I.toI x)).data.toList) fun z=> .val Au z:=by
 rintro E rv fp f H R z ⟨⟩;exact⟨_,none,by simp only[BA,I.V.1 (ha E rv fp f H R)],rfl,Ek.2 rfl⟩
end
section
variable{tb:CV}{Γ:Cx}{a b:AO}
def nA(ss:Ss):List Nat→Bool
 |[]=>true
 |j::r=>(match AQ ss j with
  |some (.keep φ)=>uD φ&&(match szF ss φ with|some 1=>true|_=>false)
  |_=>false)&&nA ss r
theorem V8{E:QS}{rv:Nat→AV}{fp:Fp}{f:Fr}{H:A6}(R:B5 E Γ rv fp f H): ∀{js:List Nat},nA Γ.ss js=true→(js.flatMap fun j=>cellsOf (rv j))=js.map rv∧Q1 Γ.ss js∧ ∀j∈js,ment (rv j)≤H.length
 |[],_=>⟨rfl,fun _ hj=>absurd hj (by simp),fun _ hj=>absurd hj (by simp)⟩
 |j::r,h=>by
  simp only[nA,af]at h;obtain⟨h1,h2⟩:=h;obtain⟨g1,g2,g3⟩:=V8 R h2
  split at h1
  ·rename_i φ e;simp only[af]at h1;have hs:szF Γ.ss φ=some 1:=by
    have:=h1.2
    split at this
    ·assumption
    ·cases this
   obtain⟨k1,k2,_⟩:=nB h1.1 R hs (R.slots j _ e).1;refine⟨by simp only[d5,bh,k1,g1];rfl,fun k hk=> ?_,fun k hk=> ?_⟩
   ·rcases bm.1 hk with rfl|hk
    ·rw[e];rfl
    ·exact g2 k hk
   ·rcases bm.1 hk with rfl|hk
    ·exact k2
    ·exact g3 k hk
  ·cases h1
def kvs(js:List Nat):List (Nat×AY):=js.map fun k=>(1, .kv k)
theorem kvs_PR{rv:Nat→AV}{ss:Ss}{P:Nat→Prop}{H:A6}: ∀{js:List Nat},Q1 ss js→PR rv ss P H (kvs js) (js.map rv)
 |[],_=>rfl
 |j::r,h=>⟨[rv j],r.map rv,rfl,rfl,⟨rv j,rfl,fun k hk=>by rw[ct.1 hk];exact h j (by simp),rfl⟩,kvs_PR fun k hk=>h k (by simp[hk])⟩
theorem PR_kvs{rv:Nat→AV}{ss:Ss}{P:Nat→Prop}{H:A6}: ∀{js:List Nat} {cs:List AV},PR rv ss P H (kvs js) cs→cs=js.map rv
 |[],cs,h=>h
 |j::r,cs,⟨c,d,e,_,⟨v,hc,_,hv⟩,g⟩=>by rw[e,hc,PR_kvs g,hv];rfl
theorem Ct{js:List Nat}{j n:Nat}{ps:List (Nat×AY)}(ha:C4 tb Γ a (.cp j 0))(hb:C4 tb Γ b (.aggk js))(ho:nA Γ.ss js=true)(hj:AQ Γ.ss j=some (.cells ps))(hn:n=js.length)(hs:n=Zx ps):
  UP tb Γ none (.st n a b) (some ()) fun _=>Γ.setS j (.cells (kvs js)):=by
 rintro E rv fp f H R z ⟨⟩;obtain⟨l,id,e,hv⟩:=ha E rv fp f H R;obtain⟨cs,h0,h2,h3⟩:=GW R hj e;obtain⟨g1,g2,g3⟩:=V8 R ho;have hbv:=(hb E rv fp f H R).2;rw[g1]at hbv;have hlen:=q6 h3;have hlt:=(R.fplt j id l ((h0 id).2 rfl)).1;have hm:Bv (js.map rv)≤H.length:=by
  have key: ∀l:List Nat,(∀j∈l,ment (rv j)≤H.length)→Bv (l.map rv)≤H.length:=by
   intro l
   induction l with
   |nil=>intro _;simp[Bv]
   |cons x l ih=>intro h;simp only[bh,Bv];have:=h x (by simp);have:=ih fun j hj=>h j (by simp[hj]);omega
  exact key js g3
 obtain⟨rv',fp',_,_,R'⟩:=R.set (j:=j) (S:= .cells (kvs js)) (v:=rv j) (o:= .cells (EQ H id) (js.map rv)) (by rw[hj];rfl) l h0 (by simp only[DW];exact hm) rfl (R.rvlt j l) (.inl rfl) (R.scal j l) fun rv' fp' e1 e2 hP hs=>
  ⟨id,_,by rw[e1,e],e2,by simp[BR,hlt],sa hP (by simp) (fun p _=>hs p.2 (.inl rfl)) (kvs_PR (rv:=rv) g2)⟩
 have hsp:B7 cs 0 (js.map rv)=js.map rv:=by
  simp only[B7,lq,dt,dc];rw[k0 (by rw[cj];omega),ei]
 refine⟨.junk,some (H.set id (BU.cells (EQ H id) (js.map rv))),?_,rv',fp',R'⟩;simp only[BA,hv,store,h2,aa,hbv,cellsOf];rw[t6 ⟨by rw[cj,hn],by omega⟩,hsp]
 rfl
theorem h_ldKs{js:List Nat}{j n:Nat}(ha:C4 tb Γ a (.cp j 0))(ho:nA Γ.ss js=true)(hj:AQ Γ.ss j=some (.cells (kvs js)))(hn:n=js.length):EG tb Γ (.ld true n a) (some ()) fun _=> .aggk js:=by
 rintro E rv fp f H R z ⟨⟩;obtain⟨l,id,e,hv⟩:=ha E rv fp f H R;obtain⟨cs,h0,h2,h3⟩:=GW R hj e;obtain⟨g1,g2,g3⟩:=V8 R ho;have hcs:=PR_kvs h3;subst hcs;have hsub:sub (js.map rv) 0 n=js.map rv:=by
  simp only[sub,dq];exact au (by rw[cj];omega)
 refine⟨.agg (js.map rv),none,?_,rfl,g2,by rw[g1]⟩;simp only[BA,hv,Am.load,place,h2,ak,aa];rw[t6 (by rw[cj];omega),hsub]
 rfl
theorem C6{js:List Nat}{j n m:Nat}(h:BP Γ.ts n=some (.cp j 0))(ho:nA Γ.ss js=true)(hj:AQ Γ.ss j=some (.cells (kvs js)))(hm:m=js.length):ResG Γ (.cell true m n) (.aggk js):=by
 intro E rv fp f H R r vs hr;obtain⟨v,u,h1,_,h3⟩:=h_ldKs (tb:=⟨fun _=>none,fun _=>none,fun _=>none,[]⟩) (Cq h) ho hj hm E rv fp f H R () rfl;simp only[BA,eval,val]at h1;obtain⟨w,hw,e⟩:=aj.1 h1;cases e;exact⟨v,by simp only[results,hw,aa,hr,ak],h3⟩
end
def Iw{t:T}{l:List CK}(p:CA t l)(x y:t.α):Bool:= @decide (x=y) (p.d x y)
theorem Mz{t:T}{l:List CK}{p:CA t l}{x y:t.α}(h:x=y):Iw p x y=true:= @ua _ (p.d x y) h
theorem cI{t:T}{l:List CK}{p:CA t l}{x y:t.α}(h: ¬x=y):Iw p x y=false:= @ub _ (p.d x y) h
end
section
section
variable{tb:CV}{cl:Nat→List AV→A6→M2}{N:Nat}
theorem opsT_like{d:Option Nat}{g g':Option (Nat×Bool)}{o:GI}{l l':List Bh}{p:Fr×A6}: ∀{k:Nat} {ms:List bV} {es:List Eob} {w:List (Option (Nat×Nat))} {f:Fr} {h:A6},wanted f g'=wanted f g→
  (∀k ms es w v h,Hn tb cl N k ms es l w (put f d v) h p→Hn tb cl N k ms es l' w (put f d v) h p)→Hn tb cl N k ms es (⟨d,g,o⟩::l) w f h p→Hn tb cl N k ms es (⟨d,g',o⟩::l') w f h p
 |k,ms,es,[],f,h,hw,ih,e=>by simp[Hn]at e
 |k,ms,es,none::w,f,h,hw,ih,e=>by
  simp only[Hn]at e ⊢;rw[hw];rcases e with ⟨h0,q,es',h1,h2,h3,h4,e⟩|⟨h0,h1,e⟩
  ·exact .inl ⟨h0,q,es',h1,h2,h3,h4,ih _ _ _ _ _ _ e⟩
  ·exact .inr ⟨h0,h1,ih _ _ _ _ _ _ e⟩
 |k,ms,es,some (lo,hi)::w,f,h,hw,ih,e=>by
  simp only[Hn]at e ⊢;rw[hw];rcases e with ⟨h0,q,h1,h2,h3,⟨h4,e⟩|⟨h4,h5,e⟩⟩|⟨h0,h1,e⟩
  ·exact .inl ⟨h0,q,h1,h2,h3, .inl ⟨h4,ih _ _ _ _ _ _ e⟩⟩
  ·exact .inl ⟨h0,q,h1,h2,h3, .inr ⟨h4,h5,ih _ _ _ _ _ _ e⟩⟩
  ·exact .inr ⟨h0,h1,ih _ _ _ _ _ _ e⟩
theorem cE{p:Fr×A6}: ∀{l:List Bh} {k:Nat} {ms:List bV} {es es2:List Eob} {w:List (Option (Nat×Nat))} {f:Fr} {h:A6},(∀e∈es,e∈es2)→Hn tb cl N k ms es l w f h p→Hn tb cl N k ms es2 l w f h p
 |[],k,ms,es,es2,w,f,h,hs,e=>by cases w<;>exact e
 |⟨d,g,o⟩::l,k,ms,es,es2,[],f,h,hs,e=>by simp[Hn]at e
 |⟨d,g,o⟩::l,k,ms,es,es2,none::w,f,h,hs,e=>by
  simp only[Hn]at e ⊢;rcases e with ⟨h0,q,es',h1,h2,h3,h4,e⟩|⟨h0,h1,e⟩
  ·exact .inl ⟨h0,q,es',h1,h2,h3,fun x hx=>⟨(h4 x hx).1.imp (hs x) id,(h4 x hx).2⟩,e⟩
  ·exact .inr ⟨h0,h1,e⟩
 |⟨d,g,o⟩::l,k,ms,es,es2,some (lo,hi)::w,f,h,hs,e=>by
  simp only[Hn]at e ⊢;rcases e with ⟨h0,q,h1,h2,h3,⟨h4,e⟩|⟨h4,⟨x,hx,h5⟩,e⟩⟩|⟨h0,h1,e⟩
  ·exact .inl ⟨h0,q,h1,h2,h3, .inl ⟨h4,cE hs e⟩⟩
  ·exact .inl ⟨h0,q,h1,h2,h3, .inr ⟨h4,⟨x,hs x hx,h5⟩,cE hs e⟩⟩
  ·exact .inr ⟨h0,h1,cE hs e⟩
theorem gd_opsT{g:Nat}{b:Bool}{R:List Bh}{p:Fr×A6}: ∀{l:List Bh} {k:Nat} {ms:List bV} {es:List Eob} {w:List (Option (Nat×Nat))} {f:Fr} {h:A6},get f g= .b b→g∉GB l→
  Hn tb cl N k ms es (l++R) w f h p→Hn tb cl N k ms es (l.map (gd g b)++R) w f h p
 |[],_,_,_,_,_,_,_,_,e=>e
 |o::l,k,ms,es,w,f,h,hg,hn,e=>by
  have hd:o.d≠some g:=fun e=>hn (by simp[GB,e]);have hn':g∉GB l:=fun e=>hn (by
   simp only[GB,gx]at e ⊢;cases o.d<;>simp[e])
  have hwt:wanted f (gd g b o).g=wanted f o.g:=by
   cases ho:o.g with
   |none=>simp[gd,ho,wanted,hg]
   |some p=>simp[gd,ho]
  have hoo:gd g b o=⟨o.d,(gd g b o).g,o.o⟩:=by
   obtain⟨d,og,oo⟩:=o;cases og<;>rfl
  rw[bh,cd,hoo];rw[cd]at e;exact opsT_like hwt (fun k ms es w v h e=>gd_opsT (by rw[wanted_put (w:=b) hd];exact hg) hn' e) e
def SZ:Nat→List (Option (Nat×Nat))→Option (Nat×List (Option (Nat×Nat)))
 |0,w=>some (0,w)
 |n+1,none::w=>(SZ n w).map fun p=>(p.1+1,p.2)
 |n+1,some _::w=>SZ n w
 |_+1,[]=>none
theorem Yg{g:Nat}{b:Bool}{R:List Bh}: ∀{l:List Bh} {seen:List Nat} {k m:Nat} {w w2:List (Option (Nat×Nat))} {f:Fr} {H:A6},get f g= .b (!b)→g∉GB l→mF seen l=true→(∀t∈seen,get f t= .tup [])→
  SZ l.length w=some (m,w2)→ ∃f',(∀u,u∉GB l→get f' u=get f u)∧ ∀p,Hn tb cl N (k+m) [] [] R w2 f' H p→Hn tb cl N k [] [] (l.map (gd g b)++R) w f H p
 |[],seen,k,m,w,w2,f,H,_,_,_,_,e=>by
  simp only[bu,SZ,ae,ch]at e;obtain⟨rfl,rfl⟩:=e;exact⟨f,fun _ _=>rfl,fun p h=>h⟩
 |o::l,seen,k,m,w,w2,f,H,h,hn,hs,hseen,e=>by
  have hd:o.d≠some g:=fun e=>hn (by simp[GB,e]);have hn':g∉GB l:=fun e=>hn (by
   simp only[GB,gx]at e ⊢;cases o.d<;>simp[e])
  simp only[mF,af]at hs;have hwt:wanted f (gd g b o).g=some false:=by
   cases ho:o.g with
   |none=>simp[gd,ho,wanted,h]
   |some p=>
    obtain⟨t,b⟩:=p;simp only[gd,ho,wanted];have:=hs.1;rw[ho]at this;obtain⟨x,hx,hb⟩:=jp.1 this;have hb:=cm hb;subst hb;rw[hseen _ hx]
  have hoo:gd g b o=⟨o.d,(gd g b o).g,o.o⟩:=by
   obtain⟨d,og,oo⟩:=o;cases og<;>rfl
  have h1:get (put f o.d (.tup [])) g= .b (!b):=by rw[wanted_put (w:=b) hd];exact h
  have h2: ∀t∈(match o.d with|some d=>d::seen|none=>seen),get (put f o.d (.tup [])) t= .tup []:=fun t ht=>by
   cases hdd:o.d with
   |none=>rw[hdd]at ht;exact hseen t ht
   |some d=>
    rw[hdd]at ht;simp only[put,get]
    by_cases e:d=t
    ·rw[t6 e]
    ·rw[t7 e];rcases bm.1 ht with e'|ht
     ·exact absurd e'.symm e
     ·exact hseen t ht
  have hu: ∀f':Fr,(∀u,u∉GB l→get f' u=get (put f o.d (.tup [])) u)→ ∀u,u∉GB (o::l)→get f' u=get f u:=fun f' h3 u hu=>by
   have hu':u∉GB l:=fun e=>hu (by
    simp only[GB,gx]at e ⊢;cases o.d<;>simp[e])
   rw[h3 u hu'];exact wanted_put (w:=b) fun e=>hu (by simp[GB,e])
  cases w with
  |nil=>simp[SZ]at e
  |cons x w=>
   cases x with
   |none=>
    simp only[ba,SZ]at e;obtain⟨q,hq,e⟩:=aj.1 e;obtain⟨f',h3,h4⟩:=Yg (k:=k+1) (m:=q.1) (w2:=q.2) (H:=H) (R:=R) h1 hn' hs.2 h2 hq;simp only[ch]at e;obtain⟨rfl,rfl⟩:=e;refine⟨f',hu f' h3,fun p hp=> ?_⟩;rw[bh,cd,hoo];exact .inr ⟨hwt,rfl,h4 p (by rw[iw,pn 1];exact hp)⟩
   |some y=>
    simp only[ba,SZ]at e;obtain⟨f',h3,h4⟩:=Yg (k:=k) (H:=H) (R:=R) h1 hn' hs.2 h2 e;refine⟨f',hu f' h3,fun p hp=> ?_⟩;rw[bh,cd,hoo];exact .inr ⟨hwt,rfl,h4 p hp⟩
end
section
variable{tb:CV}{Γ:Cx}{a b:AO}{ks:List Kf}{ρ:Type}{Q:OC ρ}
theorem B5.sure{E:QS}{rv:Nat→AV}{fp:Fp}{f:Fr}{H:A6}(I:B5 E Γ rv fp f H){g:Nat}{b:Bool}(hg:get f g= .b b):B5 E (Γ.push g (.val du b)) rv fp f H:=
 ⟨I.le,I.base,I.wf,I.fplt,I.rvlt,I.scal,I.inj,I.slots,fun u φ e=>by
  simp only[pj,BP]at e
  split at e
  ·rename_i hu;cases e;subst hu;exact FW.2 hg
  ·exact I.temps u φ e,I.gh⟩
def QP{L l rest:List Bh}{g t d:Nat}{b:Bool}{w w2:List (Option (Nat×Nat))}{y:Nat×Nat}{N k m:Nat}(Γk:Cx)(n:Nat)(og:BP Γ.ts g=some (.val du b))(h:Lp g true n L=some (l,⟨some d,none, .pick (.t g) (.t t) (.k (.b false))⟩::rest))(hc:Xx g l Γ.ts=true)(hs: ∀z,Sub (Γk.push d (.val du z)) (Γ.push d (.val du z)))
  (hw:SZ l.length w=some (m,some y::w2)) (hq:lJ N (k+m) [] [] y (some d) (.pick (.t g) (.t t) (.k (.b false)))=true)
  (kk:(z:Bool)→A0 tb (Γk.push d (.val du z)) N (k+m) [] [] rest w2 ks Q)
  (main:((z:Bool)→A0 tb (Γk.push d (.val du z)) N (k+m) [] [] rest w2 ks Q)→A0 tb (Γ.push g (.val du true)) N k [] [] (l++⟨some d,none, .pick (.t g) (.t t) (.k (.b false))⟩::rest) w ks Q):A0 tb Γ N k [] [] L w ks Q:=
 ⟨if b=true then(main kk).m else(kk false).m,fun E f H ⟨rv,fp,I⟩ ms hms es hes r hr=>by
  cases hms;cases hes;have hL:=He h;simp only[Xx,af,ck]at hc;obtain⟨hc1,hc2,hc3⟩:=hc;have hg:=FW.1 (I.temps g _ og);have hng:=Kc hc2;cases b with
  |true=>
   obtain⟨p,e,f',H',h4,h5⟩:=(main kk).ok E f H ⟨rv,fp,I.sure hg⟩ [] .nil [] .nil r (by simpa using hr);exact⟨p,e,f',H',by rw[hL];exact gd_opsT hg hng h4,h5⟩
  |false=>
   obtain⟨f',h1,h2⟩:=Yg (tb:=tb) (cl:=C3 tb) (N:=N) (b:=true) (H:=H) (k:=k) (R:=⟨some d,none, .pick (.t g) (.t t) (.k (.b false))⟩::rest) hg hng hc1 (by simp) hw;have hp:BA tb (C3 tb) (eval tb f') H (.pick (.t g) (.t t) (.k (.b false)))=some (.b false,none):=by
    simp only[BA,eval,h1 g hng,hg];rfl
   have I':B5 E Γ rv fp f' H:=I.fr fun u φ e=>h1 u (I4 hc3 e);obtain⟨p,e,f2,H2,h4,h5⟩:=(kk false).ok E _ H ⟨rv,fp,(Zz I').sub (hs _)⟩ [] .nil [] .nil r (by simpa using hr);exact⟨p,e,f2,H2,by rw[hL];exact h2 p (stepD hq .nil hp rfl h4),h5⟩⟩
def O9{Γ0:Cx}{rest:List Bh}{g d:Nat}{x b:Bool}{y z:AO}{w:List (Option (Nat×Nat))}{q:Nat×Nat}{N k:Nat}(og:BP Γ.ts g=some (.val du b))(ht:C4 tb Γ (bif b then y else z) (.val du x))(hs:Sub (Γ0.push d (.val du x)) (Γ.push d (.val du x)))
  (hq:lJ N k [] [] q (some d) (.pick (.t g) y z)=true) (kk:(z:Bool)→A0 tb (Γ0.push d (.val du z)) N k [] [] rest w ks Q) {C:List Cb}:A0 tb Γ N k [] C (⟨some d,none, .pick (.t g) y z⟩::rest) (some q::w) ks Q:=
 ⟨(kk x).m,fun E f H ⟨rv,fp,I⟩ ms hms es hes r hr=>by
  cases hms;have hg:=FW.1 (I.temps g _ og);have hp:BA tb (C3 tb) (eval tb f) H (.pick (.t g) y z)=some (.b x,none):=by
   have hv:=FW.1 (ht E rv fp f H I);simp only[BA,eval,hg];cases b<;>exact ue (fun v=>some (v,none)) hv
  obtain⟨p,e,f2,H2,h4,h5⟩:=(kk x).ok E _ H ⟨rv,fp,(Zz I).sub hs⟩ [] .nil [] .nil r hr;exact⟨p,e,f2,H2,cE (es:=[]) (fun _ hx=>absurd hx (by simp)) (stepD hq .nil hp rfl h4),h5⟩⟩
def xV:T:=Wi Bool (fun x=>if x then .ifc 0 .junk else .nili) false (fun x=>by cases x<;>rfl) (fun x=>by cases x<;>rfl)
theorem sL{P:Nat→Prop}{H:A6}{v:AV}{x:Bool}:xV.V P H v x↔v=if x then .ifc 0 .junk else .nili:=TS
theorem h_mkif{t:Nat}:EG tb Γ (.mkif t a) (some ()) fun _=> .val xV true:=by
 rintro E rv fp f H R _ ⟨⟩;exact⟨_,none,rfl,rfl,sL.2 rfl⟩
theorem h_isni{x neg:Bool}(ha:C4 tb Γ a (.val xV x)):EG tb Γ (.isni neg a) (some (if neg then x else !x)) fun z=> .val du z:=by
 rintro E rv fp f H R _ ⟨⟩;have h:=sL.1 (ha E rv fp f H R);refine⟨.b (if neg then x else !x),none,?_,rfl,FW.2 rfl⟩;simp only[BA,h];cases x<;>cases neg<;>rfl
theorem o_g{n:Nat}{t:T}{cs:List AV}{x:t.α}(h:tb.gl n=some cs)(hm:Bv cs=0)(hr: ∀P H,t.R P H cs x):C4 tb Γ (.g n) (.rp t x):=fun E rv fp f H R=>by
 have hl:=t.len (hr (Pf E Γ.ss fp H) H);have he:eval tb f (.g n)= .ip cs 0:=by simp only[eval,h]
 show jM t _ _ _ _;rw[he];refine⟨trivial,cs,0,rfl,by omega,?_,fun m _=>by simp only[ment,hm];omega⟩;have:sub cs 0 t.sz=cs:=by simp[sub,←hl]
 rw[this];exact hr _ _
theorem tab_m{α:Type}(c:α→AV)(hm: ∀x,ment (c x)=0): ∀l:List α,Bv (l.map c)=0
 |[]=>rfl
 |x::l=>by simp only[bh,Bv,hm x,tab_m c hm l];rfl
theorem tab_R{α:Type}{c:α→AV}{z:α}{hs hm}{n:Nat}{P:Nat→Prop}{H:A6}(x:Ar α n):(aw n (Wi α c z hs hm)).R P H (x.l.map c) x:=by
 have key: ∀l:List α,l.map c=(l.map fun y=>[c y]).flatten∧CM (Wi α c z hs hm) P H (l.map fun y=>[c y]) l:=fun l=>by
  induction l with
  |nil=>exact⟨rfl,trivial⟩
  |cons y l ih=>exact⟨by simp[ih.1],rfl,ih.2⟩
 exact⟨_,(key x.l).1,(key x.l).2⟩
end
def sQ(K V:T)(P:Nat→Prop)(H:A6):List (AV×AV)→List (K.α×V.α)→Prop
 |[],[]=>True
 |(a,b)::r,(x,y)::q=>K.V P H a x∧V.V P H b y∧sQ K V P H r q
 |_,_=>False
section
variable{K V:T}{P Q:Nat→Prop}{H G:A6}
theorem sQ.mono(m: ∀i,P i→Q i∧G[i]? =H[i]?): ∀{es:List (AV×AV)} {l:List (K.α×V.α)},sQ K V P H es l→sQ K V Q G es l
 |[],[],_=>trivial
 |(_,_)::_,(_,_)::_,⟨h1,h2,h3⟩=>⟨h1.mono m,h2.mono m,h3.mono m⟩
theorem sQ.men{m:Nat}(hp: ∀i,P i→i<m): ∀{es:List (AV×AV)} {l:List (K.α×V.α)},sQ K V P H es l→Bv (es.map (·.1))≤m∧Bv (es.map (·.2))≤m
 |[],[],_=>by simp[Bv]
 |(_,_)::_,(_,_)::_,⟨h1,h2,h3⟩=>by
  have:=h1.men hp;have:=h2.men hp;have:=h3.men hp;simp only[bh,Bv];omega
theorem sQ.app: ∀{es fs:List (AV×AV)} {l m:List (K.α×V.α)},sQ K V P H es l→sQ K V P H fs m→sQ K V P H (es++fs) (l++m)
 |[],_,[],_,_,h=>h
 |(_,_)::_,_,(_,_)::_,_,⟨h1,h2,h3⟩,h=>⟨h1,h2,h3.app h⟩
theorem sQ.length: ∀{es:List (AV×AV)} {l:List (K.α×V.α)},sQ K V P H es l→es.length=l.length
 |[],[],_=>rfl
 |(_,_)::_,(_,_)::_,⟨_,_,h3⟩=>by simp[h3.length]
end
def WS{κ ν:Type}(e:κ→κ→Bool):List (κ×ν)→κ→Option ν
 |[],_=>none
 |(x,v)::r,k=>bif e k x then some v else WS e r k
def WR{κ ν:Type}(e:κ→κ→Bool):List (κ×ν)→κ→ν→List (κ×ν)
 |[],k,v=>[(k,v)]
 |(x,y)::r,k,v=>bif e k x then(k,v)::r else(x,y)::WR e r k v
def mdel{κ ν:Type}(e:κ→κ→Bool):List (κ×ν)→κ→List (κ×ν)
 |[],_=>[]
 |(x,y)::r,k=>bif e k x then r else(x,y)::mdel e r k
def TV(K V:T):Dom where
 α:=List (K.α×V.α)
 R:=fun F P H v x=> ∃id es,v= .mp id∧(∀i,F i↔i=id)∧H[id]? =some (.map es)∧sQ K V P H es x
 lt:=fun⟨id,es,_,hF,h,_⟩ i hi=>by rw[(hF i).1 hi];exact(cg.1 h).1
 men:=fun⟨id,es,e,hF,_,_⟩ _ hm=>by rw[e];simp only[ment];exact hm id ((hF id).2 rfl)
 mono:=fun m g ⟨id,es,e,hF,h,r⟩=>⟨id,es,e,hF,by rw[g id ((hF id).2 rfl)];exact h,r.mono m⟩
structure sM(K:T)(ek:EK) where
 l:List CK
 p:CA K l
 h:(K.agg=true∧ek= .agg l)∨(K.agg=false∧ ∃c,l=[c]∧ek= .one c)
def sM.e{K:T}{ek:EK}(q:sM K ek):K.α→K.α→Bool:=Iw q.p
theorem eqS_len: ∀{l:List CK} {c d:List AV} {b:Bool},NE l c d=some b→c.length=l.length
 |[],[],[],_,_=>rfl
 |[],[],_::_,_,h=>by simp[NE]at h
 |[],_::_,_,_,h=>by simp[NE]at h
 |_::_,[],_,_,h=>by simp[NE]at h
 |_::_,_::_,[],_,h=>by simp[NE]at h
 |k::l,x::c,y::d,b,h=>by
  simp only[NE]at h;obtain⟨a,_,h⟩:=ad.1 h;obtain⟨b',h,_⟩:=aj.1 h;simp[eqS_len h]
section
variable{K V:T}{P Q:Nat→Prop}{H G:A6}{ek:EK}
theorem sM.eq(q:sM K ek){v w:AV}{x y:K.α}(h:K.V P H v x)(g:K.V Q G w y):jL ek v w=some (q.e x y):=by
 rcases q.h with ⟨ha,e⟩|⟨ha,c,hl,e⟩
 ·rcases h with ⟨_,cs,rfl,h⟩|⟨hb,_⟩
  ·rcases g with ⟨_,ds,rfl,g⟩|⟨hb,_⟩
   ·exact(ue (fun e=>jL e _ _) e).trans (q.p.h h g)
   ·rw[ha]at hb;cases hb
  ·rw[ha]at hb;cases hb
 ·rcases h with ⟨hb,_⟩|⟨_,h⟩
  ·rw[ha]at hb;cases hb
  ·rcases g with ⟨hb,_⟩|⟨_,g⟩
   ·rw[ha]at hb;cases hb
   ·have:=q.p.h h g;refine(ue (fun e=>jL e _ _) e).trans ?_;simp only[hl,NE]at this;simp only[jL];obtain⟨b,h1,h2⟩:=ad.1 this;simp only[ak,lc,ae]at h2;rw[h1,h2];rfl
theorem sM.ok(q:sM K ek){v:AV}{x:K.α}(h:K.V P H v x):Sm ek v=true:=by
 rcases q.h with ⟨ha,e⟩|⟨ha,c,hl,e⟩
 ·rcases h with ⟨_,cs,rfl,h⟩|⟨hb,_⟩
  ·refine(ue (fun e=>Sm e _) e).trans ?_;simp only[Sm,eqS_len (q.p.h h h),mc]
  ·rw[ha]at hb;cases hb
 ·exact(ue (fun e=>Sm e _) e).trans rfl
theorem YI(q:sM K ek){k:AV}{x:K.α}(hk:K.V P H k x): ∀{es:List (AV×AV)} {m:List (K.α×V.α)} (i:Nat),sQ K V P H es m→
  (∃j b y,Am.find ek k es i=some (some (i+j,b))∧WS q.e m x=some y∧V.V P H b y∧(∀b' y',V.V P H b' y'→sQ K V P H (es.set j (k,b')) (WR q.e m x y'))∧sQ K V P H (es.eraseIdx j) (mdel q.e m x))∨
  (Am.find ek k es i=some none∧WS q.e m x=none∧(∀y',WR q.e m x y'=m++[(x,y')])∧mdel q.e m x=m)
 |[],[],i,_=> .inr ⟨rfl,rfl,fun _=>rfl,rfl⟩
 |(a,b)::r,(x',y)::m,i,⟨h1,h2,h3⟩=>by
  have he:=q.eq hk h1;cases hq:q.e x x' with
  |true=>
   refine .inl ⟨0,b,y,?_,?_,h2,fun b' y' h=> ?_,?_⟩
   ·simp only[Am.find,he,hq,aa,uc,i6]
   ·simp only[WS,hq,cond_true]
   ·simp only[jo,WR,hq,cond_true];exact⟨hk,h,h3⟩
   ·simp only[List.eraseIdx_cons_zero,mdel,hq,cond_true];exact h3
  |false=>
   rcases YI q hk (i+1) h3 with ⟨j,b',y',g1,g2,g3,g4,g5⟩|⟨g1,g2,g3,g4⟩
   ·refine .inl ⟨j+1,b',y',?_,?_,g3,fun b2 y2 h=> ?_,?_⟩
    ·simp only[Am.find,he,hq,aa,ah,ud,g1];congr 3;omega
    ·simp only[WS,hq,cond_false,g2]
    ·simp only[j4,WR,hq,cond_false];exact⟨h1,h2,g4 b2 y2 h⟩
    ·simp only[List.eraseIdx_cons_succ,mdel,hq,cond_false];exact⟨h1,h2,g5⟩
   ·refine .inr ⟨?_,?_,fun y2=> ?_,?_⟩
    ·simp only[Am.find,he,hq,aa,ah,ud,g1]
    ·simp only[WS,hq,cond_false,g2]
    ·simp only[WR,hq,cond_false,g3,cd]
    ·simp only[mdel,hq,cond_false,g4]
end
section
variable{tb:CV}{Γ:Cx}{a b c:AO}{K V:T}{ek:EK}
def ZeroV(V:T)(z:AV):Prop:=(V.agg=true∧z= .agg V.zc)∨(V.agg=false∧V.zc=[z])
theorem ZeroV.v{V:T}{z:AV}(h:ZeroV V z){P:Nat→Prop}{H:A6}:V.V P H z V.z:=by
 rcases h with ⟨h,rfl⟩|⟨h,e⟩
 ·exact .inl ⟨h,_,rfl,V.hz P H⟩
 ·exact .inr ⟨h,by rw[←e];exact V.hz P H⟩
theorem M_mkm{d:Nat}(j:Nat)(hj:AQ Γ.ss j=none):UP tb Γ (some d) .mkm (some ()) fun _=>⟨(d, .own j)::Γ.ts,(j, .dom (TV K V) [])::Γ.ss⟩:=by
 rintro E rv fp f H R _ ⟨⟩;obtain⟨rv',fp',h1,h2,h3⟩:=R.more (j:=j) (S:= .dom (TV K V) []) (v:= .mp H.length) (o:= .map []) (GO hj) (by simp[DW,Bv]) rfl (by simp[ment]) rfl fun rv' fp' e1 e2 hP hs=>
  ⟨_,[],e1,e2,by simp,trivial⟩
 exact⟨.mp H.length,some (H++[BU.map []]),rfl,rv',fp',h3.push (d:=d) (φ:= .own j) ⟨h2,h1.symm⟩⟩
theorem zX{E:QS}{rv:Nat→AV}{fp:Fp}{f:Fr}{H:A6}(R:B5 E Γ rv fp f H){j:Nat}{m:List (K.α×V.α)}(hj:AQ Γ.ss j=some (.dom (TV K V) m))(ha:C4 tb Γ a (.own j)):
  ∃id es,eval tb f a= .mp id∧rv j= .mp id∧(∀i,fp j i↔i=id)∧H[id]? =some (.map es)∧sQ K V (Pf E Γ.ss fp H) H es m:=by
 obtain⟨_,hv⟩:=ha E rv fp f H R;obtain⟨id,es,e,hF,hH,h⟩:=R.slots j _ hj;exact⟨id,es,hv.trans e,e,hF,hH,h⟩
theorem h_lkp{j:Nat}{m:List (K.α×V.α)}{x:K.α}{z:AV}(q:sM K ek)(hz:ZeroV V z)(ha:C4 tb Γ a (.own j))(hj:AQ Γ.ss j=some (.dom (TV K V) m))(hb:C4 tb Γ b (.val K x)):
  EG tb Γ (.lkp ek z false a b) (some ()) fun _=> .val V ((WS q.e m x).getD V.z):=by
 rintro E rv fp f H R _ ⟨⟩;obtain⟨id,es,e1,_,_,e2,e3⟩:=zX R hj ha;have hk:=hb E rv fp f H R;have he:N0 H (.mp id)=some es:=by simp only[N0,Sk,e2]
 rcases YI q hk 0 e3 with ⟨j',b',y,g1,g2,g3,_,_⟩|⟨g1,g2,_,_⟩
 ·exact⟨b',none,by simp only[BA,q.ok hk,uc,e1,he,aa,g1,ak,ah,ud],rfl,by rw[g2];exact g3⟩
 ·exact⟨z,none,by simp only[BA,q.ok hk,uc,e1,he,aa,g1,ak,ah,ud],rfl,by rw[g2];exact hz.v⟩
theorem h_lenm{j:Nat}{m:List (K.α×V.α)}(ha:C4 tb Γ a (.own j))(hj:AQ Γ.ss j=some (.dom (TV K V) m)):EG tb Γ (.lenm a) (some (m.length:Int)) fun n=> .val tv n:=by
 rintro E rv fp f H R _ ⟨⟩;obtain⟨id,es,e1,_,_,e2,e3⟩:=zX R hj ha;exact⟨.i .i64 es.length,none,by simp only[BA,e1,N0,Sk,e2,ak],rfl,BZ.2 (by rw[e3.length])⟩
theorem map_put{E:QS}{rv:Nat→AV}{fp:Fp}{f:Fr}{H:A6}(R:B5 E Γ rv fp f H){j id:Nat}{m m':List (K.α×V.α)}{es':List (AV×AV)}(hj:AQ Γ.ss j=some (.dom (TV K V) m))(e0:rv j= .mp id)(hF: ∀i,fp j i↔i=id)
  (h:sQ K V (Pf E Γ.ss fp H) H es' m'): ∃rv' fp',B5 E ⟨Γ.ts,(j, .dom (TV K V) m')::Γ.ss⟩ rv' fp' f (H.set id (.map es')):=by
 have hl:Bn Γ.ss j:=Kz hj rfl;have hm:=h.men R.ltP;obtain⟨rv',fp',h1,h2,h3⟩:=R.set (j:=j) (S:= .dom (TV K V) m') (v:=rv j) (o:= .map es') (by rw[hj];rfl) hl hF (by simp only[DW];omega) rfl (R.rvlt j hl) (.inl rfl) (R.scal j hl)
  fun rv' fp' e1 e2 hP _=>⟨id,es',by rw[e1,e0],e2,by rw[de (R.fplt j id hl ((hF id).2 rfl)).1],h.mono hP⟩
 exact⟨rv',fp',h3⟩
theorem M_mup{j:Nat}{m:List (K.α×V.α)}{x:K.α}{y:V.α}(q:sM K ek)(ha:C4 tb Γ a (.own j))(hj:AQ Γ.ss j=some (.dom (TV K V) m))(hb:C4 tb Γ b (.val K x))(hc:C4 tb Γ c (.val V y)):
  UP tb Γ none (.mup ek a b c) (some (WR q.e m x y)) fun m'=>⟨Γ.ts,(j, .dom (TV K V) m')::Γ.ss⟩:=by
 rintro E rv fp f H R _ ⟨⟩;obtain⟨id,es,e1,e0,hF,e2,e3⟩:=zX R hj ha;have hk:=hb E rv fp f H R;have hv:=hc E rv fp f H R;have he:Sk H id=some es:=by simp only[Sk,e2]
 rcases YI q hk 0 e3 with ⟨j',b',y',g1,g2,g3,g4,_⟩|⟨g1,g2,g3,_⟩
 ·obtain⟨rv',fp',h⟩:=map_put R hj e0 hF (g4 _ y hv);exact⟨.junk,some (H.set id (.map (es.set j' (eval tb f b,eval tb f c)))),by simp only[BA,q.ok hk,uc,e1,he,aa,g1,ak,dc],rv',fp',h⟩
 ·obtain⟨rv',fp',h⟩:=map_put R hj e0 hF (e3.app (fs:=[(eval tb f b,eval tb f c)]) (m:=[(x,y)]) ⟨hk,hv,trivial⟩);exact⟨.junk,some (H.set id (.map (es++[(eval tb f b,eval tb f c)]))),by simp only[BA,q.ok hk,uc,e1,he,aa,g1,ak],rv',fp',by rw[g3];exact h⟩
end
end
section
section
variable{tb:CV}{Γ:Cx}{ks:List Kf}{ρ:Type}{Q:OC ρ}
def QJ(tb:CV){τ:Type}(Γj:τ→Cx)(ks:List Kf)(Q:OC ρ):OC (τ⊕ρ):=fun E r e f H=>
 match r with
 | .inl p=>e= .normal∧Rel E (Γj p) f H
 | .inr r=>e≠ .normal∧ ∃e' f' H',I9 tb ks (e,f,H)=some (e',f',H')∧Q E r e' f' H'
def EF{c:AC}{τ:Type}(Γj:τ→Cx)(k:(p:τ)→Aa tb (Γj p) (rg false []) ks Q)(main:Aa tb Γ c [] (QJ tb Γj ks Q)):Aa tb Γ c ks Q:=
 ⟨main.m.bind (bd (fun p=>(k p).m) some),fun E f H R r hr=>by
  obtain⟨b,hb,hr⟩:=ad.1 hr;obtain⟨e,f1,H1,h1,h2⟩:=main.ok E f H R b hb;have h1':Bp tb (C3 tb) c f H=some (e,f1,H1):=by
   obtain⟨p,hp,h⟩:=ad.1 h1;rw[hp,←h];rfl
  rw[h1'];cases b with
  |inr r'=>
   simp only[pl,ae]at hr;subst hr;exact h2.2
  |inl p=>
   obtain⟨rfl,R'⟩:=h2;simp only[dw]at hr;obtain⟨e2,f2,H2,h4,h5⟩:=(k p).ok E f1 H1 R' r hr;exact⟨e2,f2,H2,by simpa [DL]using h4,h5⟩⟩
def DF{q:Bool}{τ:Type}{Γj:τ→Cx}(p:τ)(h:Sub (Γj p) Γ):Aa tb Γ (rg q []) [] (QJ tb Γj ks Q):=
 ⟨some (.inl p),fun E f H ⟨rv,fp,I⟩ r hr=>by
  cases hr;exact⟨.normal,f,H,by simp[DL,I9],rfl,rv,fp,I.sub h⟩⟩
def Aa.jRet{τ:Type}{Γj:τ→Cx}{ks':List Kf}(s:Aa tb Γ .ret ks Q):Aa tb Γ .ret ks' (QJ tb Γj ks Q):=
 TT ⟨s.m.map fun r=> .inr r,fun E f H R r hr=>by
  obtain⟨r',h1,rfl⟩:=aj.1 hr;obtain⟨e,f',H',h2,h3⟩:=s.ok E f H R r' h1;refine⟨.ret,f,H,by simp[Bp,I9],by simp,e,f',H',?_,h3⟩;simpa [Bp]using h2⟩
def Ai{q:Bool}{d:Nat}{o:GI}{l:List Bh}{β:Type}{a:β}{φ:β→AY}(h:EG tb Γ o (some a) φ)(k:(b:β)→Aa tb (Γ.push d (φ b)) (rg q l) ks Q):Aa tb Γ (rg q (⟨some d,none,o⟩::l)) ks Q:=
 ⟨(k a).m,(a7 h k).ok⟩
def AZ{q:Bool}{d t:Nat}{o:GI}{l:List Bh}{β:Type}{a:β}{φ:β→AY}(h:EG tb Γ o (some a) φ)(k:(b:β)→Bf tb (Γ.push d (φ b)) q l t):Bf tb Γ q (⟨some d,none,o⟩::l) t:=
 ⟨(k a).m,(jw h k).ok⟩
def Aj{d:Option Nat}{o:GI}{l:List Bh}{β:Type}{a:β}{Γ':β→Cx}(h:UP tb Γ d o (some a) Γ')(k:(b:β)→Aa tb (Γ' b) (rg false l) ks Q):Aa tb Γ (rg false (⟨d,none,o⟩::l)) ks Q:=
 ⟨(k a).m,(B2 h k).ok⟩
variable{w:List (Option (Nat×Nat))}{N k:Nat}{B:List Ob}{C C':List Cb}{o:GI}{l:List Bh}{y:Nat×Nat}
def BW{d:Nat}{β:Type}{a:β}{φ:β→AY}(hq:lJ N k B C y (some d) o=true)(h:EG tb Γ o (some a) φ)(s:(b:β)→A0 tb (Γ.push d (φ b)) N k B C l w ks Q):A0 tb Γ N k B C (⟨some d,none,o⟩::l) (some y::w) ks Q:=
 ⟨(s a).m,(A0.op hq h s).ok⟩
def Kg{d:Option Nat}{β:Type}{a:β}{Γ':β→Cx}(hq:xE B C' d=true)(hb: ∀b,bU tb (Γ' b) B)(hc:LO Γ k C C')(h:UP tb Γ d o (some a) Γ')(s:(b:β)→A0 tb (Γ' b) N (k+1) (rW B) C' l w ks Q):A0 tb Γ N k B C (⟨d,none,o⟩::l) (none::w) ks Q:=
 ⟨(s a).m,(C2 hq hb hc h s).ok⟩
end
end
section
def mW(tB te:Nat):List AV→A6→Option (AV×Option A6)
 |[.ptr id off, .i .i64 n],h=>match h[id]? with
  |some (.cells (some t) [a, .nils])=>if off=0∧t=tB∧0≤n∧n≤Ci then some (.tup [],some (h.set id (.cells (some t) [a, .orow h.length 0 0 0])++[.row (some te) false 1 []]))else none
  |_=>none
 |_,_=>none
def xZ(P:Program)(g te:Nat):Prop:= ∀(b n:Nat) (w:World),w.cell? ⟨b,1,none⟩=some (.slice none 0 0)→b<w.heap.size→w.frozen? ⟨b,1,none⟩=false→n≤281474976710656→
 ∃cs:Array Value,n≤cs.size∧Calls P g #[.pointer (some ⟨b,0,none⟩), .int .i64 n] w fun e w'=>e= .returned (.tuple #[])∧w'=((w.setCell ⟨b,1,none⟩ (.slice (some ⟨w.heap.size,0,none⟩) 0 cs.size)).alloc (.cells cs te)).drew.drew.drew
def wQ(P:Program)(g:Nat):Bool:=match P.funcs[g]? with
 |some fn=>fn.body.isSome&& !(fn.name== "runtime.NumGoroutine")
 |none=>false
section
variable{P:Program}{tb:CV}
theorem Oi{g:Nat}(h:wQ P g=true)(vs:Array Value)(w:World):(callFunc g vs).run P w= .ok (.enter g vs) w:=by
 unfold wQ at h
 split at h
 ·rename_i fn hf;simp only[af,ck]at h;obtain⟨h1,h2⟩:=h;obtain⟨c,hc⟩:=bn.1 h1;have h2': ¬fn.name= "runtime.NumGoroutine" :=by simpa using h2
  simp[callFunc,hf,hc,h2']
 ·cases h
theorem prim_grow{tB te g:Nat}(hen:wQ P g=true)(hg:xZ P g te):Fh P tb fun g' args h=>if g'=g then mW tB te args h else none:=by
 intro g' C args vs r I hr h;dsimp only at h
 split at h
 ·rename_i hgg;subst hgg;unfold mW at h
  split at h
  ·rename_i hp id off n
   split at h
   ·rename_i t x hid
    split at h
    ·rename_i hc;obtain⟨rfl,rfl,h0,hm⟩:=hc;cases h;obtain⟨v,vs',e1,r1,v2,vs2,e2,r2,e3⟩:=hr;have e3':vs2=[]:=e3;have r2':v2= .int .i64 n:=r2;subst e3';subst e2;subst e1;subst r2';obtain⟨_,rfl⟩:=r1;obtain⟨us,arr,e,fr,⟨h1,hb⟩,h2,h3,h4,h5,h6⟩:=I.obj id _ hid;obtain⟨ux,us1,eu1,rx,uy,us2,eu2,ry,eu3⟩:=h4;have eu3':us2=[]:=eu3;have ry':uy= .slice none 0 0:=ry;subst eu3';subst eu2;subst eu1;subst ry';have hlt:(C.φ id).blk<C.w.heap.size:=I.lt id (Bg hid);have hidl:=Bg hid;have c1:C.w.cell? ⟨(C.φ id).blk,1,none⟩=some (.slice none 0 0):=by
      have:=h5 1 (.slice none 0 0) rfl;simpa using this
     have hnn:((n.toNat:Nat):Int)=n:=re h0;have hmm:n.toNat≤281474976710656:=by unfold Ci at hm;omega
     obtain⟨cs,hcs,hcall⟩:=hg (C.φ id).blk n.toNat C.w c1 hlt (h6 1 (by simp)) hmm;rw[hnn]at hcall;refine .inr ⟨g',_,Oi hen _ _,hcall.mono ?_⟩;rintro ee w' ⟨rfl,hw'⟩;have hszA:C.w.heap.size<(C.w.alloc (.cells cs te)).heap.size:=by rw[H3];omega
     obtain⟨XA,hIA,hφA⟩:=more I (p:=⟨C.w.heap.size,0,cs.size⟩) (o:=BU.row (some te) false 1 []) (w:=C.w.alloc (.cells cs te)) ⟨rfl,rfl,rfl⟩ hszA rfl (fun b hb=>alloc_old _ _ hb);have hfA: ∀o,(C.w.alloc (.cells cs te)).frozen? ⟨C.w.heap.size,o,none⟩=false:=fun o=>by simp only[j1,IR];simp
     have IA:=hIA ⟨[],cs,te,(0,0),⟨IR _ _,bc _,fun k hk=>by cases hk;rfl⟩,rfl,by omega,by simp,rfl,by simp,fun j v hj=>by simp at hj,fun _ o _=>hfA o,fun _ o _ _=>hfA o⟩;have hφid:(C.more ⟨C.w.heap.size,0,cs.size⟩ (BU.row (some te) false 1 []) (C.w.alloc (.cells cs te))).φ id=C.φ id:=t7 (by omega);have hgA:(C.more ⟨C.w.heap.size,0,cs.size⟩ (BU.row (some te) false 1 []) (C.w.alloc (.cells cs te))).H[id]? =some (.cells (some t) [x, .nils]):=(bq hidl).trans hid;have hws:w'.heap.size=C.w.heap.size+1:=by rw[hw'];simp
     have hwn:w'.heap[C.w.heap.size]? =some (.cells cs te):=by
      rw[hw'];have:(C.w.setCell ⟨(C.φ id).blk,1,none⟩ (.slice (some ⟨C.w.heap.size,0,none⟩) 0 cs.size)).heap.size=C.w.heap.size:=by simp
      have hq:=IR (C.w.setCell ⟨(C.φ id).blk,1,none⟩ (.slice (some ⟨C.w.heap.size,0,none⟩) 0 cs.size)) (.cells cs te);rw[this]at hq;exact hq
     have hwo: ∀b,b<C.w.heap.size→w'.heap[b]? =(C.w.setCell ⟨(C.φ id).blk,1,none⟩ (.slice (some ⟨C.w.heap.size,0,none⟩) 0 cs.size)).heap[b]? :=fun b hb=>by
      rw[hw'];exact alloc_old _ _ (by simpa using hb)
     have hwid:w'.heap[(C.φ id).blk]? =some (.cells (arr.setIfInBounds 1 (.slice (some ⟨C.w.heap.size,0,none⟩) 0 cs.size)) e fr):=by
      rw[hwo _ hlt];exact WZ h1
     let D0:=C.more ⟨C.w.heap.size,0,cs.size⟩ (BU.row (some te) false 1 []) (C.w.alloc (.cells cs te))
     obtain⟨X,hI⟩:=upd (C:=D0) (D:=⟨D0.φ,D0.H.set id (.cells (some t) [x, .orow C.H.length 0 0 0]),w',D0.res⟩) IA (o':= .cells (some t) [x, .orow C.H.length 0 0 0]) (by rw[hw'];exact⟨rfl,rfl,rfl⟩) hgA rfl (fun _ _=>rfl)
      (by show(C.w.alloc (.cells cs te)).heap.size≤w'.heap.size;rw[H3,hws];exact bc _)
      (fun b hb hne=>by
       have hb':b<C.w.heap.size+1:=by have:b<(C.w.alloc (.cells cs te)).heap.size:=hb;rw[H3]at this;exact this
       show w'.heap[b]? =(C.w.alloc (.cells cs te)).heap[b]?
       by_cases hbe:b=C.w.heap.size
       ·subst hbe;rw[hwn,IR]
       ·have hbl:b<C.w.heap.size:=by omega
        have hne':b≠(C.φ id).blk:=fun e=>hne (by rw[e];exact ue Place.blk hφid.symm);rw[hwo b hbl,alloc_old _ _ hbl,heap_setCell_other hne'])
      (.inl rfl) (fun _=>⟨rfl,rfl⟩) (fun _ _ _ _ e=>by cases e)
     have hrow:rowAt (D0.H.set id (.cells (some t) [x, .orow C.H.length 0 0 0])) C.H.length=some (false,1,[]):=by
      have:(D0.H.set id (BU.cells (some t) [x, .orow C.H.length 0 0 0]))[C.H.length]? =some (BU.row (some te) false 1 []):=by
       rw[d9 (by omega)];show(C.H++[_])[C.H.length]? =_;simp
      simp only[rowAt,this]
     have hI2:=hI (by
      show Obj _ (D0.φ id) _;rw[hφid];refine⟨[ux, .slice (some ⟨C.w.heap.size,0,none⟩) 0 cs.size],_,e,fr,⟨hwid,hb⟩,by simpa using h2,by simp only[fy,r9,lc,af]at h3 ⊢;exact⟨h3.1,rfl⟩,⟨ux,_,rfl,Gk.ext (XA.trans X) rx,_,_,rfl,?_,rfl⟩,?_,?_⟩
      ·refine⟨⟨_,_,rfl⟩,false,1,[],hrow,bc _,fun _=>⟨bc _,0,cs.size,?_,dz _,fun h=>absurd h (by omega),?_,?_⟩⟩
       ·show _=Value.slice (some ⟨(D0.φ C.H.length).blk,0,none⟩) 0 cs.size;rw[show D0.φ C.H.length=_ from hφA]
       ·show 0+cs.size*1≤(D0.φ C.H.length).size;rw[show D0.φ C.H.length=_ from hφA];simp
       ·show(D0.φ C.H.length).base≤0;rw[show D0.φ C.H.length=_ from hφA];exact bc _
      ·intro j v hj;simp only[gg,hwid,dc]
       match j,hj with
       |0,hj=>
        have:=h5 0 ux rfl;simp only[gg,h1]at this;simp only[bw,ae]at hj;subst hj;simpa using this
       |1,hj=>
        simp only[di,bw,ae]at hj;subst hj;have h2':arr.size=2:=by simpa using h2
        simp[h2']
       |j+2,hj=>simp at hj
      ·intro o ho;have:=h6 o (by simpa using ho);simp only[j1,h1]at this;simp only[j1,hwid];exact this)
     refine⟨_,_,rfl,XA.trans X,hI2,rfl,?_,⟨[],rfl,rfl⟩⟩;show(C.H++[BU.row (some te) false 1 []]).set id _=(C.H.set id _++[_]);rw[qu _ _ hidl]
    ·cases h
   ·cases h
  ·cases h
 ·cases h
end
end
end
end Go.Proofs.YtfdkkkdbknbmaaaGreatDoor.Am
