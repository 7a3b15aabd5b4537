/-
  strings.Builder: room from the start.
-/
import Derived.Below
import Derived.Lib.ParseIntBCases
import Derived.Lib.Index
import Derived.ProofKit
import Derived.Deep.Slices
import Derived.DataReads
import Derived.Carry
import Derived.Test.YtfdkkkdbknbmaaaGreatDoorProg
import Derived.Lib.MakeNoZero
import Derived.Lib.Builder
import Derived.Lib.Walk
import Derived.WalkKit
import Derived.Laws.Externs
import Derived.Laws.IdiomCopy
import Derived.KernelRfl
import Derived.Shelf.Pu.ParseUintPublic10
import Derived.Shelf.Strings.Search2
import Derived.Test.YtfdkkkdbknbmaaaGreatDoorX2
set_option linter.unusedVariables false
set_option linter.unusedSimpArgs false
namespace Go.Proofs.YtfdkkkdbknbmaaaGreatDoor.Am
noncomputable section
open AN renaming iso→jg
open _root_.Array renaming getElem?_eq_none→kz, getElem?_eq_some_iff→od
open Bl renaming flat→qz
open Bool renaming and_eq_true→af, false_eq_true→ah, not_eq_true'→ck
open Br renaming app→pg
open Builtin renaming copy_→oy
open CA renaming arr→l8, int→tq, iso→tr, prod→px, u8→nr
open Cx renaming push→pj
open Extern.AbiNoEscape renaming same→o8
open Extern.BytealgCompare renaming cmp→jk, compare→nq
open Extern.BytealgCount renaming count→ot
open Extern.BytealgIndexByte renaming indexByte→mr
open GS renaming l→qn
open IT renaming int→bj
open IV renaming refl→mj
open Iff renaming rfl→q7
open IntKind renaming bits→gc, i64→tz, signed→ko, wrap→tx
open List renaming all_append→ka, all_cons→fy, all_eq_true→cb, append_assoc→br, append_nil→ei, cons_append→cd, drop_drop→cw, drop_eq_getElem_cons→da, drop_left'→fh, drop_of_length_le→fi, drop_take→ic, drop_zero→dq, eq_nil_of_length_eq_zero→c0, findIdx?_eq_none_iff→j9, findIdx?_eq_some_iff_getElem→ir, flatten_append→gy, flatten_cons→bz, flatten_nil→o6, forall_mem_cons→l9, getElem?_append_left→bq, getElem?_append_right→bo, getElem?_cons_succ→di, getElem?_cons_zero→bw, getElem?_eq_getElem→ab, getElem?_eq_none→dk, getElem?_eq_some_iff→cg, getElem?_map→ge, getElem?_set_ne→d9, getElem?_set_self→de, getElem?_take→dn, getElem_take→kd, length_append→an, length_cons→ba, length_drop→bk, length_map→cj, length_nil→bu, length_set→ig, length_take→aq, map_cons→bh, map_nil→eo, mem_append_left→qt, mem_append_right→qk, mem_cons→bm, mem_cons_of_mem→a8, mem_cons_self→bg, mem_iff_getElem→gm, mem_iff_getElem?→jm, mem_of_getElem?→d8, replicate→az, set_append_right→qg, set_cons_zero→jo, size_toArray→lm, take→ra, take_append_drop→c9, take_left'→ij, take_length→f9, take_of_length_le→au, take_take→kp, zipIdx_cons→kn
open List.cons renaming injEq→gr
open Nat renaming add_assoc→iw, add_comm→pn, add_mul→ga, add_sub_cancel→oe, add_sub_cancel_left→iq, beq→fx, beq_eq→lu, ble→ou, blt→kh, le_of_ble_eq_true→gz, le_refl→bc, lt_or_ge→ef, min_eq_left→fq, mod_eq_of_lt→j3, mul_le_mul_right→cn, mul_one→qr, not_lt_zero→mn, sub_self→jz, sub_zero→ny, succ_mul→ci, zero_add→dc, zero_le→dz, zero_mul→kc
open Option renaming bind_eq_some_iff→ad, bind_some→aa, map_eq_some_iff→aj, map_some→ak
open Option.some renaming injEq→ae
open Prod.mk renaming injEq→ch
open T renaming arr→aw, b→du, int→am, iso→nc, prod→fj, sl→db, u16→dy, u32→n8, u64→bx, u8→bi
open T.V renaming of→qm
open Tryz renaming prog→cu, underlying121→oi, underlying196→rq, underlying266→rt, underlying3→pa, underlying4→pb
open UInt16 renaming ofNat→ca
open UInt32 renaming ofNat→pm, toNat_ofNat'→nw
open UInt64 renaming ofNat→d7, toNat_ofNat'→jb
open UInt8 renaming ofNat→bb, toNat→sv, toNat_ofNat'→gi
open Utf8 renaming encode→jc
open Value renaming cells→sn
open World renaming cell?→gg, frozen?→j1
section
def VL(tS ncc ngr:Nat):Cv:=⟨false,2,25,[],
 (.seq (rg false [⟨some 4,none, .mv (.t 0)⟩,⟨some 5,none, .call ncc [(.t 4)]⟩])
 (.seq (.seq (rg false [⟨some 6,none, .mv (.t 1)⟩,⟨some 7,none, .bin .lss (.t 6) (.k (.i .i64 0))⟩])
 (.cond (.t 7)
  (rg false [⟨some 8,none, .mkif tS (.k (.s [115,116,114,105,110,103,115,46,66,117,105,108,100,101,114,46,71,114,111,119,58,32,110,101,103,97,116,105,118,101,32,99,111,117,110,116]))⟩,⟨none,none, .die⟩])
  .skip))
 (.seq (rg true [⟨some 9,none, .mv (.t 0)⟩,⟨some 10,none, .nilc (.t 9)⟩,⟨some 11,none, .fa 1 (.t 10)⟩,⟨some 12,none, .ld false 1 (.t 11)⟩,⟨some 13,none, .capn (.t 12)⟩,⟨some 14,none, .mv (.t 0)⟩,⟨some 15,none, .nilc (.t 14)⟩,⟨some 16,none, .fa 1 (.t 15)⟩,⟨some 17,none, .ld false 1 (.t 16)⟩,⟨some 18,none, .len (.t 17)⟩,⟨some 19,none, .bin .sub (.t 13) (.t 18)⟩,⟨some 20,none, .mv (.t 1)⟩,⟨some 21,none, .bin .lss (.t 19) (.t 20)⟩])
 (.cond (.t 21)
  (rg false [⟨some 22,none, .mv (.t 0)⟩,⟨some 23,none, .mv (.t 1)⟩,⟨some 24,none, .call ngr [(.t 22),(.t 23)]⟩])
  .skip))))⟩
section
variable{tb:CV}{tB te tS ncc nne ngw ngr:Nat}{h:A6}{id:Nat}{a b:AV}
theorem stq{cl:Nat→List AV→A6→M2}{d:Option Nat}{o:GI}{l:List Bh}{f:Fr}{v:AV}{r:Option Fr}(e:BA tb cl (eval tb f) h o=some (v,none))(k:Jm tb cl h l (put f d v)=r):Jm tb cl h (⟨d,none,o⟩::l) f=r:=by
 simp[Jm,wanted,e,k]
theorem run_regq{l:List Bh}{y:AC}{f f':Fr}(e:Jm tb (C3 tb) h l f=some f'):Bp tb (C3 tb) (.seq (rg true l) y) f h=Bp tb (C3 tb) y f' h:=by
 simp[Bp,rg,e]
theorem tP{c:AO}{x y:AC}{f:Fr}{b:Bool}(e:eval tb f c= .b b):Bp tb (C3 tb) (.cond c x y) f h=if b then Bp tb (C3 tb) x f h else Bp tb (C3 tb) y f h:=by
 simp[Bp,e]
theorem gr_run{n:Int}{h1 G:A6}(h0:0≤n)(hc:BD tb (C3 tb) h ncc [.ptr id 0]=some (.tup [],some h1))(hld:load h1 false 1 (.ptr id 1)=some .nils)(hg:if 0<n then BD tb (C3 tb) h1 ngr [.ptr id 0, .i .i64 n]=some (.tup [],some G)else G=h1):
  ∃f',Bp tb (C3 tb) (VL tS ncc ngr).body [(0, .ptr id 0),(1, .i .i64 n)] h=some (.normal,f',G):=by
 have hn0:decide (n<0)=false:=by simp;omega
 have key: ∃F,Bp tb (C3 tb) (VL tS ncc ngr).body [(0, .ptr id 0),(1, .i .i64 n)] h=Bp tb (C3 tb) (.cond (.t 21)
  (rg false [⟨some 22,none, .mv (.t 0)⟩,⟨some 23,none, .mv (.t 1)⟩,⟨some 24,none, .call ngr [(.t 22),(.t 23)]⟩])
  .skip) F h1∧get F 21= .b (decide (0<n))∧get F 0= .ptr id 0∧get F 1= .i .i64 n:=by
  apply Exists.intro;refine⟨?_,?_⟩
  ·unfold VL;simp only;refine(Kr (Qf (v:= .ptr id 0) (u:=none) rfl (Qf (v:= .tup []) (u:=some h1) (cL (by exact hc)) rfl))).trans ?_;refine(AbM ((Kr (Qf (v:= .i .i64 n) (u:=none) rfl (Qf (v:= .b false) (u:=none) (by rw[←hn0];rfl) rfl))).trans ((tP (b:=false) rfl).trans rfl))).trans ?_;exact(run_regq (stq (v:= .ptr id 0) rfl (stq (v:= .ptr id 0) rfl (stq (v:= .ptr id 1) rfl (stq (v:= .nils) (oN (by exact hld)) (stq (v:= .i .i64 0) rfl (stq (v:= .ptr id 0) rfl (stq (v:= .ptr id 0) rfl (stq (v:= .ptr id 1) rfl (stq (v:= .nils) (oN (by exact hld)) (stq (v:= .i .i64 0) rfl (stq (v:= .i .i64 0) rfl (stq (v:= .i .i64 n) rfl (stq (v:= .b (decide (0<n))) rfl rfl))))))))))))))
  ·exact⟨rfl,rfl,rfl⟩
 obtain⟨F,e,f21,f0,f1⟩:=key;rw[e,tP (b:=decide (0<n)) (by simpa [eval]using f21)]
 by_cases hp:0<n
 ·rw[t6 hp]at hg;rw[t6 (by simpa using hp)];simp only[Bp,rg,ah,ud];rw[Qf (v:= .ptr id 0) (u:=none) (by simp[BA,eval,f0]) (Qf (v:= .i .i64 n) (u:=none) (by simp[BA,eval,get,put,f1]) (Qf (v:= .tup []) (u:=some G) (cL (by exact hg)) rfl))];exact⟨_,rfl⟩
 ·rw[t7 hp]at hg;rw[t7 (by simpa using hp),hg];exact⟨_,rfl⟩
theorem gr_eval(hf:tb.prim ngw=none∧tb.fns ngw=some (VL tS ncc ngr))(hcc:tb.prim ncc=none∧tb.fns ncc=some (PM tB nne))(hne:tb.prim nne=some Si)(hgr:tb.prim ngr=some (mW tB te))(hh:h[id]? =some (.cells (some tB) [a, .nils]))(ha:a= .nilp∨a= .ptr id 0)
  {n:Int} (h0:0≤n) (hm:n≤Ci):
  BD tb (C3 tb) h ngw [.ptr id 0, .i .i64 n]=some (.tup [],some (if 0<n then h.set id (.cells (some tB) [.ptr id 0, .orow h.length 0 0 0])++[.row (some te) false 1 []]else h.set id (.cells (some tB) [.ptr id 0, .nils]))):=by
 have hc:=cJ hcc hne hh ha;have hid:=(cg.1 hh).1;have hs:(h.set id (BU.cells (some tB) [.ptr id 0, .nils]))[id]? =some (.cells (some tB) [.ptr id 0, .nils]):=de hid;have h2:=Hy hs;simp only[BD,hf.1];rw[R8,hf.2];simp only[aa];have hld:load (h.set id (BU.cells (some tB) [.ptr id 0, .nils])) false 1 (.ptr id 1)=some .nils:=by simp[load,place,h2.1,I1,sub]
 by_cases hp:0<n
 ·have hgc:BD tb (C3 tb) (h.set id (.cells (some tB) [.ptr id 0, .nils])) ngr [.ptr id 0, .i .i64 n]=some (.tup [],some (h.set id (.cells (some tB) [.ptr id 0, .orow h.length 0 0 0])++[.row (some te) false 1 []])):=by
   simp only[BD,hgr,mW,hs];simp[h0,hm,List.set_set]
  obtain⟨f',e1⟩:=gr_run (tb:=tb) (tS:=tS) (ncc:=ncc) (ngr:=ngr) h0 hc hld (by rw[t6 hp];exact hgc);rw[RZ (tb:=tb) (h:=h) (fn:=VL tS ncc ngr) (args:=[.ptr id 0, .i .i64 n]) (vs:=[]) rfl rfl e1 (.inr rfl) rfl,t6 hp];exact ue some (Yw h.length _ (oM (te:=te) (tB:=tB) (s:=[]) hid rfl) [] rfl false)
 ·obtain⟨f',e1⟩:=gr_run (tb:=tb) (tS:=tS) (ncc:=ncc) (ngr:=ngr) h0 hc hld (by rw[t7 hp]);rw[RZ (tb:=tb) (h:=h) (fn:=VL tS ncc ngr) (args:=[.ptr id 0, .i .i64 n]) (vs:=[]) rfl rfl e1 (.inr rfl) rfl,t7 hp];obtain⟨u,hu,rfl⟩:=NX false h.length (h.set id (.cells (some tB) [.ptr id 0, .nils])) (by simp) [] rfl;exact ue some hu
variable{Γ:Cx}{x y:AO}
def vE(l:AP)(n:Int):Option AP:=if l=[]∧0≤n∧n≤Ci then some []else none
theorem M_bldR{d j:Nat}{l:AP}{n:Int}(hcc:tb.prim ncc=none∧tb.fns ncc=some (PM tB nne))(hne:tb.prim nne=some Si)(hf:tb.prim ngw=none∧tb.fns ngw=some (VL tS ncc ngr))(hgr:tb.prim ngr=some (mW tB te))
  (ha:C4 tb Γ x (.own j)) (hj:AQ Γ.ss j=some (.dom (Sd tB te false) l)) (hb:C4 tb Γ y (.val tv n)):
  UP tb Γ (some d) (.call ngw [x,y]) (vE l n) fun _=>⟨(d, .junk)::Γ.ts,(j, .dom (Sd tB te (decide (0<n))) ([]:AP))::Γ.ss⟩:=by
 intro E rv fp f H R l' hl';simp only[vE]at hl'
 split at hl'
 ·rename_i hm;cases hl';obtain⟨rfl,h0,hm⟩:=hm;obtain⟨hl,hv⟩:=ha E rv fp f H R;obtain⟨id,e,⟨_,_,a,hx,hh,hF⟩|⟨hg,r,hne',hh,hr,hF⟩⟩:=R.slots j _ hj
  ·have hid:=Bg hh;have hev:=gr_eval (te:=te) hf hcc hne hgr hh hx h0 hm
   by_cases hp:0<n
   ·rw[t6 hp]at hev;obtain⟨rv',fp',g1,g2,g3⟩:=R.dom (D:=Sd tB te (decide (0<n))) (y:=([]:AP)) (G:=H.set id (.cells (some tB) [.ptr id 0, .orow H.length 0 0 0])++[.row (some te) false 1 []]) (F':=fun i=>i=id∨i=H.length) (by rw[hj];rfl) hl (by simp)
     (fun i hi hn=>by rw[bq (by simpa using hi)];exact d9 fun e=>hn ((hF i).2 e.symm))
     (fun i hi=>by
      rcases hi with rfl|rfl
      ·exact .inl ((hF _).2 rfl)
      ·exact .inr ⟨bc _,by simp⟩)
     (by
      rw[Uo];have:=IC (l:=H) (i:=id) (o:= .cells (some tB) [.ptr id 0, .orow H.length 0 0 0]) (m:=H.length+1) (by have:=R.wf;omega) (by simp only[DW,Bv,ment];omega);simp only[C7,DW,CT,an,ig,ba,bu];omega) rfl
     (fun Q=>⟨id,e, .inr ⟨.inl (by simpa using hp),H.length,by omega,by
      rw[bq (by simpa using hid)];exact de hid,by
      rw[bo (by simp)];simp[BS],fun i=>q7⟩⟩)
    refine⟨.tup [],some _,?_,rv',fp',g3.push (d:=d) (φ:= .junk) trivial⟩;simp only[BA,bh,eo,hv,e,BZ.1 (hb E rv fp f H R)];exact hev
   ·rw[t7 hp]at hev;obtain⟨rv',fp',g1,g2,g3⟩:=R.dom (D:=Sd tB te (decide (0<n))) (y:=([]:AP)) (G:=H.set id (.cells (some tB) [.ptr id 0, .nils])) (F':=fp j) (by rw[hj];rfl) hl (by simp)
     (fun i hi hn=>d9 fun e=>hn ((hF i).2 e.symm)) (fun i hi=> .inl hi)
     (by simp only[ig];exact IC R.wf (by simp only[DW,Bv,ment];omega)) rfl
     (fun Q=>⟨id,e, .inl ⟨by simpa using hp,rfl,_, .inr rfl,de hid,hF⟩⟩)
    refine⟨.tup [],some _,?_,rv',fp',g3.push (d:=d) (φ:= .junk) trivial⟩;simp only[BA,bh,eo,hv,e,BZ.1 (hb E rv fp f H R)];exact hev
  ·rcases hg with hg|hg
   ·cases hg
   ·exact absurd rfl hg
 ·cases hl'
end
end
section
section
variable{tb:CV}{Γ:Cx}
theorem EG.u{o:GI}{β:Type}{a:β}{φ:β→AY}(h:EG tb Γ o (some a) φ):EG tb Γ o (some ()) fun _=>φ a:=
 fun E rv fp f H R _ _=>h E rv fp f H R a rfl
theorem UP.u{d:Option Nat}{o:GI}{β:Type}{a:β}{Γ':β→Cx}(h:UP tb Γ d o (some a) Γ'):UP tb Γ d o (some ()) fun _=>Γ' a:=
 fun E rv fp f H R _ _=>h E rv fp f H R a rfl
theorem PR.app{rv:Nat→AV}{ss:Ss}{P:Nat→Prop}{H:A6}: ∀{ps qs:List (Nat×AY)} {c d:List AV},PR rv ss P H ps c→PR rv ss P H qs d→PR rv ss P H (ps++qs) (c++d)
 |[],qs,c,d,h,g=>by rw[show c=[]from h];exact g
 |(n,φ)::ps,qs,c,d,⟨a,b,e,l,h1,h2⟩,g=>⟨a,b++d,by rw[e,br],l,h1,h2.app g⟩
theorem PR.unapp{rv:Nat→AV}{ss:Ss}{P:Nat→Prop}{H:A6}: ∀{ps qs:List (Nat×AY)} {c:List AV},PR rv ss P H (ps++qs) c→ ∃a b,c=a++b∧PR rv ss P H ps a∧PR rv ss P H qs b
 |[],qs,c,h=>⟨[],c,rfl,rfl,h⟩
 |(n,φ)::ps,qs,c,⟨a,b,e,l,h1,h2⟩=>by
  obtain⟨a',b',e',h3,h4⟩:=PR.unapp (ps:=ps) h2;exact⟨a++a',b',by rw[e,e',br],⟨a,a',rfl,l,h1,h3⟩,h4⟩
def O8(t:T)(x:t.α)(qs:List (Nat×AY)):Prop:= ∀rv ss P H c,t.R P H c x→PR rv ss P H qs c
theorem O8.one{t:T}{x:t.α}:O8 t x [(t.sz, .val t x)]:=fun _ _ _ _ c h=>⟨c,[],by simp,t.len h,h,rfl⟩
theorem O8.prod{a b:T}{x:a.α×b.α}{qs rs:List (Nat×AY)}(h:O8 a x.1 qs)(g:O8 b x.2 rs):O8 (fj a b) x (qs++rs):=by
 rintro rv ss P H c ⟨d,e,rfl,h1,h2⟩;exact(h _ _ _ _ _ h1).app (g _ _ _ _ _ h2)
theorem O8.iso{t:T}{β:Type}{f:β→t.α}{g:t.α→β}{hfg: ∀y,f (g y)=y}{x:β}{qs:List (Nat×AY)}(h:O8 t (f x) qs):O8 (nc t β f g hfg) x qs:=fun rv ss P H c r=>h rv ss P H c r
def TU(qs:List (Nat×AY))(t:T)(x:t.α):Prop:= ∀rv ss P H c,PR rv ss P H qs c→t.R P H c x
theorem TU.one{n:Nat}{t:T}{x:t.α}:TU [(n, .val t x)] t x:=fun _ _ _ _ c ⟨a,b,e,_,h,g⟩=>by
 rw[e,show b=[]from g,ei];exact h
theorem TU.prod{a b:T}{x:a.α}{y:b.α}{qs rs:List (Nat×AY)}(h:TU qs a x)(g:TU rs b y):TU (qs++rs) (fj a b) (x,y):=by
 intro rv ss P H c r;obtain⟨d,e,rfl,h1,h2⟩:=r.unapp;exact⟨d,e,rfl,h _ _ _ _ _ h1,g _ _ _ _ _ h2⟩
theorem TU.iso{t:T}{β:Type}{f:β→t.α}{g:t.α→β}{hfg: ∀y,f (g y)=y}{x:t.α}{y:β}{qs:List (Nat×AY)}(h:TU qs t x)(e:f y=x):TU qs (nc t β f g hfg) y:=fun rv ss P H c r=>by
 show t.R P H c (f y);rw[e];exact h rv ss P H c r
theorem ZU{j:Nat}{ps qs:List (Nat×AY)}(hj:AQ Γ.ss j=some (.cells ps))(h: ∀rv ss P H cs,PR rv ss P H ps cs→PR rv ss P H qs cs): ∀E f H,Rel E Γ f H→Rel E ⟨Γ.ts,(j, .cells qs)::Γ.ss⟩ f H:=by
 rintro E f H ⟨rv,fp,R⟩;obtain⟨id,cs,e1,e0,e2,e3⟩:=R.slots j _ hj;have hl:Bn Γ.ss j:=Kz hj rfl;obtain⟨rv2,fp2,_,_,I2⟩:=R.chg (j:=j) (S:= .cells qs) (v:=rv j) (F:=fp j) (G:=H) (by rw[hj];rfl) rfl (bc _) (fun _ _ _=>rfl) (fun _ h=> .inl ⟨hl,h⟩) (fun _=> .inl rfl) R.wf (R.rvlt j hl) (.inr ((R.scal j hl).resolve_left (by rw[hj];simp[Dw]))) fun rv2 fp2 f1 f2 hP hs=>
  ⟨id,cs,by rw[f1];exact e1,by rw[f2];exact e0,e2,(h _ _ _ _ _ e3).mono hP (bc _) fun p _=>hs p.2 fun _=> .inl rfl⟩
 exact⟨rv2,fp2,I2⟩
theorem Zl{j n:Nat}{t:T}{x:t.α}{qs:List (Nat×AY)}(hj:AQ Γ.ss j=some (.cells [(n, .val t x)]))(h:O8 t x qs): ∀E f H,Rel E Γ f H→Rel E ⟨Γ.ts,(j, .cells qs)::Γ.ss⟩ f H:=
 ZU hj fun rv ss P H cs r=>h rv ss P H cs (TU.one rv ss P H cs r)
theorem oV{j:Nat}{t:T}{qs:List (Nat×AY)}(x:t.α)(hj:AQ Γ.ss j=some (.cells qs))(h:TU qs t x): ∀E f H,Rel E Γ f H→Rel E ⟨Γ.ts,(j, .cells [(t.sz, .val t x)])::Γ.ss⟩ f H:=
 ZU hj fun rv ss P H cs r=>O8.one rv ss P H cs (h rv ss P H cs r)
variable{ks:List Kf}{ρ:Type}{Q:OC ρ}
def Kx(n:Int):UInt8:=bb (n%256).toNat
def Da(n:Int):UInt16:=ca (n%65536).toNat
def CJ(n:Int):UInt32:=pm (n%4294967296).toNat
def Cw(n:Int):UInt64:=d7 (n%18446744073709551616).toNat
def iF(a b:List UInt8):Int:=jk ⟨a.toArray⟩ ⟨b.toArray⟩
theorem ST.bytes{P:Nat→Prop}{H:A6}{v:AV}{g:GS UInt8}(h:(db bi).V P H v g):TR H v=some g.l:=by
 obtain⟨els,e,h'⟩:=(JY.1 h).els;have e':EX H 1 v=some els:=e;have hs: ∀l,v≠ .s l:=by rintro l rfl;simp[EX]at e'
 cases v<;>first
  |exact absurd rfl (hs _)
  |(simp only[TR,e',aa];exact Zb h')
theorem Spec.cmp{g:Nat}(hp:tb.prim g=some Tj):Spec tb g [db bi,db bi] [am .i64] fun a=>some (iF a.1.l a.2.l):=by
 rintro P h args ⟨x,y⟩ _ _ ⟨v,q,rfl,h1,w,rfl,h2⟩ r hr;cases hr;refine⟨.i .i64 (iF x.l y.l),none,?_,rfl,[.i .i64 (iF x.l y.l)],rfl,_,rfl,BZ.2 rfl⟩;simp only[BD,hp,Tj,ST.bytes h1,ST.bytes h2,aa,ak]
 rfl
end
end
section
section
variable{tb:CV}{Γ:Cx}{a b:AO}
theorem YS{sz:Nat}: ∀(k:Nat) (css:List (List AV)) (cs:List AV),css.length=k→(∀e∈css,e.length=sz)→cs.take (k*sz)=css.flatten→BV sz k cs=css
 |0,css,cs,h,_,_=>by rw[c0 h];rfl
 |k+1,y::css,cs,hk,hall,hc=>by
  have hy:=hall y (by simp);simp only[BV];simp only[bz]at hc;have hA:cs.take sz=y:=by
   have:=ue (ra sz) hc;rw[kp,fq (by rw[ci];omega),ij hy]at this;exact this
  have hB:(cs.drop sz).take (k*sz)=css.flatten:=by
   have:=ue (List.drop sz) hc;rw[fh hy,ic,ci,oe]at this;exact this
  rw[hA,YS k css (cs.drop sz) (by simpa using hk) (fun e he=>hall e (by simp[he])) hB]
theorem oc_els{t u:T}{x:t.α}{j o o' k m n N sz:Nat}{ps:List (Nat×AY)}(F:AN t (aw n u) o')(hsz:sz=u.sz)(ha:C4 tb Γ a (.oc j (o+k*sz) sz m))(hj:AQ Γ.ss j=some (.cells ps))(hp:Jv ps o=some (N, .val t x,o'))(hkm:k+m≤n)
  {E:QS} {rv:Nat→AV} {fp:Fp} {f:Fr} {H:A6} (R:B5 E Γ rv fp f H):
  ∃id els,id<H.length∧fp j id∧eval tb f a= .ocel u.sz id (o+k*u.sz) m∧EX H u.sz (.ocel u.sz id (o+k*u.sz) m)=some els∧CM u (Pf E Γ.ss fp H) H els (((F.get x).l.drop k).take m):=by
 subst hsz;obtain⟨l,id,e,hv⟩:=ha E rv fp f H R;obtain⟨cs,h0,h2,h3⟩:=GW R hj e;obtain⟨b',c,e0,e1,e2,e3,e4,e5,_⟩:=FQ h3 hp;have hfp:fp j id:=(h0 id).2 rfl;have hlt:=(R.fplt j id l hfp).1;have hlen:=t.len e4;have hle:=F.le;have hszA:(aw n u).sz=n*u.sz:=rfl;rw[hszA]at hle;have hmul:k*u.sz+m*u.sz≤n*u.sz:=by rw[←ga];exact cn _ hkm
 obtain⟨css,q1,q2⟩:=F.getR e4;have hlc:css.length=n:=by rw[q2.length];exact(F.get x).len
 have hs1:=e5 o' (n*u.sz) (by omega);rw[←e1]at hs1;have hch:BV u.sz n (cs.drop o)=css:=YS n css (cs.drop o) hlc q2.lens (by rw[show(cs.drop o).take (n*u.sz)=sub cs o (n*u.sz)from rfl,hs1,←q1];rfl);have hsub:=Ok (sz:=u.sz) (len:=n) (c:=k) (d:=k+m) (l:=cs.drop o) (by omega) hkm;refine⟨id,(css.take (k+m)).drop k,hlt,hfp,hv,?_,?_⟩
 ·simp only[EX,h2,aa];rw[t6 ⟨trivial,by omega⟩];rw[←hch,hsub,cw,iq]
 ·have:=(q2.take (n:=k+m)).drop (n:=k);simp only[ic,iq]at this ⊢;exact this
theorem a_s{t u:T}{x:t.α}{j o o' k m n N sz:Nat}{ps:List (Nat×AY)}(F:AN t (aw n u) o')(hsz:sz=u.sz)(ha:C4 tb Γ a (.oc j (o+k*sz) sz m))(hj:AQ Γ.ss j=some (.cells ps))(hp:Jv ps o=some (N, .val t x,o'))(hkm:k+m≤n):
  ArgP tb Γ a (db u) (.mk (((F.get x).l.drop k).take m)):=by
 intro E rv fp f H R;obtain⟨id,els,h1,_,h3,h4,h5⟩:=oc_els F hsz ha hj hp hkm R;rw[h3];exact JY.2 ⟨h1,els,h4,h5.mono fun i hi=>⟨Pf.lt R.le hi,rfl⟩⟩
theorem vC{c:Prop} [Decidable c]{g:Nat}{As Rs:List T}{F:BG As→Option (BG Rs)}{l:List AO}{x:BG As}(sp:Spec tb g As Rs F)(fl:XO Rs)(hx:c→lU tb Γ As l x):EG tb Γ (.call g l) (if c then F x else none) fun r=>zF Rs r:=by
 intro E rv fp f H R r hr
 split at hr
 ·rename_i hc;exact h_callR sp fl (hx hc) E rv fp f H R r hr
 ·cases hr
theorem ND{c:Prop} [Decidable c]{g:Nat}{As:List T}{t:T}{F:BG As→Option (BG [t])}{l:List AO}{x:BG As}(sp:Spec tb g As [t] F)(fl:XO [t])(hx:c→lU tb Γ As l x):EG tb Γ (.call g l) (if c then F x else none) fun r:t.α=> .val t r:=vC sp fl hx
theorem h_callRcN{c:Prop} [Decidable c]{g:Nat}{As:List T}{t u:T}{Rs:List T}{F:BG As→Option (BG (t::u::Rs))}{l:List AO}{x:BG As}(sp:Spec tb g As (t::u::Rs) F)(fl:XO (t::u::Rs))(hx:c→lU tb Γ As l x):
  EG tb Γ (.call g l) (if c then F x else none) fun r=> .tup (tupL (t::u::Rs) r):=vC sp fl hx
theorem n_oc{t u:T}{x:t.α}{j o o' k m n N sz:Nat}{ps:List (Nat×AY)}(F:AN t (aw n u) o')(hsz:sz=u.sz)(ha:C4 tb Γ a (.oc j (o+k*sz) sz m))(hj:AQ Γ.ss j=some (.cells ps))(hp:Jv ps o=some (N, .val t x,o'))(hkm:k+m≤n):
  NewL tb Γ a u (((F.get x).l.drop k).take m):=by
 intro E rv fp f H R;obtain⟨id,els,h1,_,h3,h4,h5⟩:=oc_els F hsz ha hj hp hkm R;exact⟨els,by rw[h3];exact h4,h5⟩
theorem M_if{c:Prop} [Decidable c]{d:Option Nat}{o:GI}{α:Type}{A:Option α}{G:α→Cx}(h:c→UP tb Γ d o A G):UP tb Γ d o (if c then A else none) G:=by
 intro E rv fp f H R r hr
 split at hr
 ·rename_i hc;exact h hc E rv fp f H R r hr
 ·cases hr
def mA{α:Type}(n:Nat)(g:GS α):Option (Ar α n):=if h:0<n∧n≤g.l.length then some ⟨g.l.take n,by rw[aq];omega⟩else none
theorem ST.arr{n:Nat}{t:T}{P:Nat→Prop}{H:A6}{v:AV}{g:GS t.α}{y:Ar t.α n}(h:ST t P H v g)(hy:mA n g=some y): ∃p,ZR n t.sz v=some p∧jM (aw n t) P H p y:=by
 simp only[mA]at hy
 split at hy
 ·rename_i hc;cases hy;cases g with
  |nil=>simp[qn]at hc;omega
  |mk l=>
   obtain⟨bp,els,e,h⟩:=h;simp only[qn]at hc;have hlen:=h.length;have htk:=h.take (n:=n);have hszA:(aw n t).sz=n*t.sz:=rfl;have hR: ∀G:List AV,G.take (n*t.sz)=(els.take n).flatten→(aw n t).R P H (sub G 0 (aw n t).sz) ⟨l.take n,by rw[aq];omega⟩:=fun G hG=>⟨els.take n,by rw[hszA,←hG];simp[sub],htk⟩;have hfl:(els.take n).flatten.length=n*t.sz:=by rw[YH htk.lens,aq,fq (by omega)]
   cases v<;>simp only[Nb]at bp<;>simp only[EX]at e
   ·split at e
    ·rename_i hs;cases e;subst hs;refine⟨.ip (els.take n).flatten 0,by simp only[ZR];rw[t6 ⟨trivial,by omega⟩],trivial,_,0,rfl,by rw[hszA,hfl];omega,hR _ (by rw[au (by omega)]),fun m hm=> ?_⟩;simp only[ment];have:=(aw n t).men (x:=⟨l.take n,by rw[aq];omega⟩) ⟨els.take n,rfl,htk⟩ hm;exact this
    ·cases e
   ·rename_i id k lo len;obtain⟨r,hr,e⟩:=ad.1 e
    split at e
    ·rename_i hcd;cases e;have hll:len=l.length:=by rw[←hlen,aq,bk];omega
     have hsplit:(r.2.2.drop lo).flatten=(((r.2.2.drop lo).take len).take n).flatten++((r.2.2.drop lo).drop n).flatten:=by
      rw[kp,fq (by omega),←gy,c9]
     refine⟨.pe id k lo 0,by simp only[ZR];rw[t6 ⟨by omega,hc.1⟩],bp,_,0,by simp only[place,hr,aa,t6 hcd.1];rfl,?_,hR _ ?_,fun m hm=>by simp only[ment];exact hm _ bp⟩
     ·rw[hszA,hsplit,an,hfl];omega
     ·rw[hsplit,ij hfl]
    ·cases e
   ·rename_i sz' id off len;obtain⟨r,hr,e⟩:=ad.1 e
    split at e
    ·rename_i hcd;have he:some (BV t.sz len (r.drop off))=some els:=e;cases he;obtain⟨hs,hcd⟩:=hcd;subst hs;have hcl: ∀(n:Nat) (l:List AV),(BV t.sz n l).length=n:=by
      intro n
      induction n with
      |zero=>intro l;rfl
      |succ n ih=>intro l;simp[BV,ih]
     have hll:len=l.length:=by rw[←hlen,hcl]
     have hnl:n≤len:=by omega
     have hmul:n*t.sz≤len*t.sz:=cn _ hnl;have hsub:=Ok (sz:=t.sz) (len:=len) (c:=0) (d:=n) (l:=r.drop off) (by omega) hnl;simp only[dq,kc,ny]at hsub;have hcf: ∀(n:Nat) (l:List AV),n*t.sz≤l.length→(BV t.sz n l).flatten=l.take (n*t.sz):=by
      intro n
      induction n with
      |zero=>intro l _;simp[BV]
      |succ n ih=>
       intro l hl;simp only[BV,bz];rw[ih _ (by simp;rw[ci]at hl;omega),ci,pn (n*t.sz),List.take_add]
     refine⟨.ptr id off,by simp only[ZR];rw[t6 ⟨trivial,hnl⟩],bp,r,off,by simp[place,hr],by rw[hszA];omega,?_,fun m hm=>by simp only[ment];exact hm _ bp⟩;have:sub r off (aw n t).sz=sub (r.drop off) 0 (aw n t).sz:=by simp[sub]
     rw[this];exact hR _ (by rw[hsub,hcf n _ (by simp;omega)])
    ·cases e
 ·cases hy
theorem h_s2aV{n sz:Nat}{t:T}{g:GS t.α}(hsz:sz=t.sz)(ha:C4 tb Γ a (.val (db t) g)):EG tb Γ (.s2a n sz a) (mA n g) fun y=> .rp (aw n t) y:=by
 intro E rv fp f H R y hy;subst hsz;obtain⟨p,h1,h2⟩:=(JY.1 (ha E rv fp f H R)).arr hy;exact⟨p,none,by simp only[BA,h1,val,ak],rfl,h2⟩
variable{ks:List Kf}{ρ:Type}{Q:OC ρ}
def jH{q:Bool}{L l rest:List Bh}{g t d:Nat}{b:Bool}(n:Nat)(og:BP Γ.ts g=some (.val du b))(h:Lp g true n L=some (l,⟨some d,none, .pick (.t g) (.t t) (.k (.b false))⟩::rest))(hc:Xx g l Γ.ts=true)
  (main:Aa tb (Γ.push g (.val du true)) (rg q (l++⟨some d,none, .pick (.t g) (.t t) (.k (.b false))⟩::rest)) ks Q) (els:Aa tb (Γ.push d (.val du false)) (rg q rest) ks Q):Aa tb Γ (rg q L) ks Q:=
 ⟨if b=true then main.m else els.m,fun E f H ⟨rv,fp,I⟩ r hr=>by
  have hL:=He h;simp only[Xx,af,ck]at hc;obtain⟨hc1,hc2,hc3⟩:=hc;have hg:=FW.1 (I.temps g _ og);have hng:=Kc hc2;cases b with
  |true=>
   obtain⟨e,f',H',h4,h5⟩:=main.ok E f H ⟨rv,fp,I.le,I.base,I.wf,I.fplt,I.rvlt,I.scal,I.inj,I.slots,fun u φ e=>by
    simp only[pj,BP]at e
    split at e
    ·rename_i hu;cases e;subst hu;exact FW.2 hg
    ·exact I.temps u φ e,I.gh⟩ r (by simpa using hr)
   exact⟨e,f',H',by rw[hL,Rk hg hng];exact h4,h5⟩
  |false=>
   obtain⟨f',h1,h2⟩:=Rg (tb:=tb) (q:=q) (w:=true) (H:=H) hg hng hc1 (by simp);have hp:BA tb (C3 tb) (eval tb f') H (.pick (.t g) (.t t) (.k (.b false)))=some (.b false,none):=by
    simp only[BA,eval,h2 g hng,hg];rfl
   have I':B5 E Γ rv fp f' H:=I.fr fun u φ e=>h2 u (I4 hc3 e);obtain⟨e,f2,H2,h4,h5⟩:=els.ok E _ H ⟨rv,fp,Zz I'⟩ r (by simpa using hr);exact⟨e,f2,H2,by rw[hL,FB h1,EM hp rfl];exact h4,h5⟩⟩
def Aa.orX{q:Bool}{L l rest:List Bh}{g t d:Nat}{b:Bool}(n:Nat)(og:BP Γ.ts g=some (.val du b))(h:Lp g false n L=some (l,⟨some d,none, .pick (.t g) (.k (.b true)) (.t t)⟩::rest))(hc:Xx g l Γ.ts=true)
  (main:Aa tb (Γ.push g (.val du false)) (rg q (l++⟨some d,none, .pick (.t g) (.k (.b true)) (.t t)⟩::rest)) ks Q) (els:Aa tb (Γ.push d (.val du true)) (rg q rest) ks Q):Aa tb Γ (rg q L) ks Q:=
 ⟨if b=true then els.m else main.m,fun E f H ⟨rv,fp,I⟩ r hr=>by
  have hL:=He h;simp only[Xx,af,ck]at hc;obtain⟨hc1,hc2,hc3⟩:=hc;have hg:=FW.1 (I.temps g _ og);have hng:=Kc hc2;cases b with
  |false=>
   obtain⟨e,f',H',h4,h5⟩:=main.ok E f H ⟨rv,fp,I.le,I.base,I.wf,I.fplt,I.rvlt,I.scal,I.inj,I.slots,fun u φ e=>by
    simp only[pj,BP]at e
    split at e
    ·rename_i hu;cases e;subst hu;exact FW.2 hg
    ·exact I.temps u φ e,I.gh⟩ r (by simpa using hr)
   exact⟨e,f',H',by rw[hL,Rk hg hng];exact h4,h5⟩
  |true=>
   obtain⟨f',h1,h2⟩:=Rg (tb:=tb) (q:=q) (w:=false) (H:=H) hg hng hc1 (by simp);have hp:BA tb (C3 tb) (eval tb f') H (.pick (.t g) (.k (.b true)) (.t t))=some (.b true,none):=by
    simp only[BA,eval,h2 g hng,hg];rfl
   have I':B5 E Γ rv fp f' H:=I.fr fun u φ e=>h2 u (I4 hc3 e);obtain⟨e,f2,H2,h4,h5⟩:=els.ok E _ H ⟨rv,fp,Zz I'⟩ r (by simpa using hr);exact⟨e,f2,H2,by rw[hL,FB h1,EM hp rfl];exact h4,h5⟩⟩
def Ab{q:Bool}{d n:Nat}{l:List Bh}{φ:AY}(h:BP Γ.ts n=some φ)(k:Aa tb (Γ.push d φ) (rg q l) ks Q):Aa tb Γ (rg q (⟨some d,none, .mv (.t n)⟩::l)) ks Q:=Ah (Ay (Cq h)) k
def Ag{q:Bool}{x y:AC}(s:Aa tb Γ x (.seq y::ks) Q):Aa tb Γ (rg q []) (.seq (.seq x y)::ks) Q:=Ac (Ad s)
theorem A8{op:BinOp}{a b:AO}{x y:Int}(h:isCmp op=true)(ha:C4 tb Γ a (.val tv x))(hb:C4 tb Γ b (.val tv y)):EG tb Γ (.bin op a b) (some (cmpI op x y)) fun z=> .val du z:=DZ (I:=bj .i64) h ha hb
abbrev oz(d:Nat)(x:GI):Bh:=⟨some d,none,x⟩
abbrev og(d g:Nat)(x:GI):Bh:=⟨some d,some (g,true),x⟩
abbrev oh(d g:Nat)(x:GI):Bh:=⟨some d,some (g,false),x⟩
instance instAO {n:Nat}:OfNat AO n:=⟨.t n⟩
abbrev kT:AO:= .k (.b true)
abbrev kF:AO:= .k (.b false)
abbrev mt(d n:Nat):Bh:=⟨some d,none, .mv (.t n)⟩
abbrev sf(l:List Bh)(y:AC):AC:= .seq (rg false l) y
abbrev sr(l:List Bh)(y:AC):AC:= .seq (rg true l) y
abbrev ki(n:Int):AO:= .k (.i .i64 n)
abbrev on(x:GI):Bh:=⟨none,none,x⟩
def encC(n:Int):AP:=(jc n).data.toList
theorem h_cvcE{I:IT}{x:I.t.α}(ha:C4 tb Γ a (.val I.t x)):EG tb Γ (.cvc a) (some (encC (I.toI x))) fun z=> .val Au z:=h_cvcI ha
theorem qY{g:Nat}{z:Bool}{x:AO}(og:C4 tb Γ (.t g) (.val du true))(ho:C4 tb Γ a (.val du z)):EG tb Γ (.pick (.t g) a x) (some ()) fun _=> .val du z:=by
 rintro E rv fp f H R _ ⟨⟩;exact⟨_,none,by simp only[BA,FW.1 (og E rv fp f H R)];rfl,rfl,ho E rv fp f H R⟩
theorem h_pickF{g:Nat}{z:Bool}{x:AO}(og:C4 tb Γ (.t g) (.val du false))(ho:C4 tb Γ a (.val du z)):EG tb Γ (.pick (.t g) x a) (some ()) fun _=> .val du z:=by
 rintro E rv fp f H R _ ⟨⟩;exact⟨_,none,by simp only[BA,FW.1 (og E rv fp f H R)];rfl,rfl,ho E rv fp f H R⟩
end
theorem sB{p:Prop}(h:p:=by repeat' constructor):p:=h
abbrev BE(tb:CV)(c:Cv)(As Rs:List T)(a:BG As):=Aa tb ⟨Vk As 0 a,[]⟩ c.body [] (QRes Rs c.res)
end
section
def GM(l:List UInt8):Nat×Bool:=match Lib.parseUintB 64 l with
 | .ok u=>(u,false)
 | .range=>(18446744073709551615,true)
 |_=>(0,true)
theorem parseN_lt(l:List UInt8):(GM l).1<18446744073709551616:=by
 unfold GM
 split
 ·rename_i u h;unfold Lib.parseUintB at h
  split at h
  ·cases h
  ·have:=Lib.parseUintM_le _ l 0 u (dz _) h;show u<18446744073709551616;omega
 ·show(18446744073709551615:Nat)<_;omega
 ·show(0:Nat)<_;omega
def eW:List AV→A6→Option (AV×Option A6)
 |[.s l, .i .i64 b, .i .i64 z],_=>if b=10∧z=64∧l.length≤Ci then some (.tup [.i .u64 ((GM l).1:Nat),if(GM l).2 then .ifc 0 .junk else .nili],none)else none
 |_,_=>none
def oW(P:Program)(g gS gR:Nat):Prop:= ∀(l:List UInt8) (w:World) (eS eR:Value),l.length≤281474976710656→w.cell? ⟨gS,0,none⟩=some eS→(∃t a,eS= .iface t a)→w.cell? ⟨gR,0,none⟩=some eR→(∃t a,eR= .iface t a)→
 Calls P g #[.string ⟨l.toArray⟩, .int .i64 10, .int .i64 64] w fun e w'=> ∃v,e= .returned (.tuple #[.int .u64 ((GM l).1:Nat),v])∧(if(GM l).2 then∃t a,v= .iface t a else v= .nilIface)∧RowKit.Below w.heap.size w w'
theorem yX{P:Program}{tb:CV}{g gS gR:Nat}(hen:wQ P g=true)(hS:tb.gl gS=some [.ifc 0 .junk])(hR:tb.gl gR=some [.ifc 0 .junk])(hg:oW P g gS gR):
  Fh P tb fun g' args h=>if g'=g then eW args h else none:=by
 intro g' C args vs r I hr h;dsimp only at h
 split at h
 ·rename_i hgg;subst hgg;unfold eW at h
  split at h
  ·rename_i hp l b z
   split at h
   ·rename_i hc;obtain⟨rfl,rfl,hl⟩:=hc;cases h;obtain⟨v,vs',e1,r1,v2,vs2,e2,r2,v3,vs3,e3,r3,e4⟩:=hr;have e4':vs3=[]:=e4;have r1':v= .string ⟨l.toArray⟩:=r1;have r2':v2= .int .i64 10:=r2;have r3':v3= .int .i64 64:=r3;subst e4';subst e3;subst e2;subst e1;subst r1';subst r2';subst r3';have gl: ∀q,tb.gl q=some [.ifc 0 .junk]→ ∃ev,C.w.cell? ⟨q,0,none⟩=some ev∧ ∃t a,ev= .iface t a:=by
     intro q hq;obtain⟨_,_,_,us,hh,v,q',e,⟨t,a,rfl,_⟩,e'⟩:=I.gl q _ hq;have e'':q'=[]:=e';subst e'';subst e;exact⟨_,hh 0 _ rfl,t,a,rfl⟩
    obtain⟨eS,c1,t1⟩:=gl gS hS;obtain⟨eR,c2,t2⟩:=gl gR hR;refine .inr ⟨g',_,Oi hen _ _,(hg l C.w eS eR (by unfold Ci at hl;omega) c1 t1 c2 t2).mono ?_⟩;rintro ee w' ⟨v,rfl,hv,hb⟩;obtain⟨X,hI⟩:=grown I (w:=w') ⟨hb.os,hb.tape,hb.output⟩ hb.size hb.block;refine⟨_,_,rfl,X,hI,rfl,rfl,[.int .u64 ((GM l).1:Nat),v],rfl,_,_,rfl,rfl,_,_,rfl,?_,rfl⟩
    split at hv
    ·rename_i hq;obtain⟨t,a,rfl⟩:=hv;rw[t6 hq];exact⟨t,a,rfl,trivial⟩
    ·rename_i hq;rw[t7 hq];exact hv
   ·cases h
  ·cases h
 ·cases h
def WL:List AV→A6→Option (AV×Option A6)
 |[.s a, .s b],_=>if a.length<4294967281 then some (.i .i64 (Lib.index a b),none)else none
 |_,_=>none
def oY(P:Program)(g gM:Nat):Prop:= ∀(a b:List UInt8) (w:World) (m:Int),a.length<4294967281→w.cell? ⟨gM,0,none⟩=some (.int .i64 m)→
 Calls P g #[.string ⟨a.toArray⟩, .string ⟨b.toArray⟩] w fun e w'=>e= .returned (.int .i64 (Lib.index a b))∧w'=w
theorem tZ{P:Program}{tb:CV}{g gM:Nat}(hen:wQ P g=true)(hM:gM∈tb.it)(hg:oY P g gM):
  Fh P tb fun g' args h=>if g'=g then WL args h else none:=by
 intro g' C args vs r I hr h;dsimp only at h
 split at h
 ·rename_i hgg;subst hgg;unfold WL at h
  split at h
  ·rename_i hp a b
   split at h
   ·rename_i hl;cases h;obtain⟨v,vs',e1,r1,v2,vs2,e2,r2,e3⟩:=hr;have e3':vs2=[]:=e3;have r1':v= .string ⟨a.toArray⟩:=r1;have r2':v2= .string ⟨b.toArray⟩:=r2;subst e3';subst e2;subst e1;subst r1';subst r2';obtain⟨_,m,hm⟩:=I.it gM hM;refine .inr ⟨g',_,Oi hen _ _,(hg a b C.w m hl hm).mono ?_⟩;rintro ee w' ⟨rfl,rfl⟩;exact⟨_,C,rfl,mj C,I,rfl,rfl,rfl⟩
   ·cases h
  ·cases h
 ·cases h
end
section
def qI(s:AP)(b z:Int):Option (UInt64×Bool):=if b=10∧z=64∧s.length≤Ci then some (d7 (GM s).1,(GM s).2)else none
theorem Ab6{tb:CV}{g:Nat}(hp:tb.prim g=some eW):Spec tb g [Au,am .i64,am .i64] [bx,xV] fun a=>qI a.1 a.2.1 a.2.2:=by
 rintro P h args ⟨x,y,z⟩ _ _ ⟨v,q,rfl,h1,w,q2,rfl,h2,u,rfl,h3⟩ r hr;dsimp only at hr;unfold qI at hr
 split at hr
 ·rename_i hc;cases hr;obtain⟨hb,hz,hl⟩:=hc;refine⟨.tup [.i .u64 ((GM x).1:Nat),if(GM x).2 then .ifc 0 .junk else .nili],none,?_,rfl,[.i .u64 ((GM x).1:Nat),if(GM x).2 then .ifc 0 .junk else .nili],rfl,_,_,rfl,?_,_,rfl,sL.2 rfl⟩
  ·rw[Ek.1 h1,BZ.1 h2,BZ.1 h3,hb,hz];simp only[BD,hp,eW];simp only[hl,and_self,uc]
  ·refine sI.2 ?_;have:=parseN_lt x;have e:(d7 (GM x).1).toNat=(GM x).1:=by rw[jb];omega
   rw[e]
 ·cases hr
def indexS(s b:AP):Option Int:=if s.length<4294967281 then some (Lib.index s b)else none
theorem Spec.indexS{tb:CV}{g:Nat}(hp:tb.prim g=some WL):Spec tb g [Au,Au] [am .i64] fun a=>Am.indexS a.1 a.2:=by
 rintro P h args ⟨x,y⟩ _ _ ⟨v,q,rfl,h1,w,rfl,h2⟩ r hr;dsimp only at hr;unfold Am.indexS at hr
 split at hr
 ·rename_i hl;cases hr;refine⟨.i .i64 (Lib.index x y),none,?_,rfl,[.i .i64 (Lib.index x y)],rfl,_,rfl,BZ.2 rfl⟩;rw[Ek.1 h1,Ek.1 h2];simp only[BD,hp,WL];rw[t6 hl]
 ·cases hr
end
section
def iC(P:Program):Nat→List Field→Option Nat
 |pos,[]=>some pos
 |pos,f::fs=>if fx f.offset pos then iC P (pos+P.cellsOf f.type) fs else none
def Kv(P:Program):Nat→TypeId→Bool
 |0,_=>false
 |n+1,t=>
  match P.underlying t with
  |some .bool=>fx (P.cellsOf t) 1
  |some (.int _)=>fx (P.cellsOf t) 1
  |some .string=>fx (P.cellsOf t) 1
  |some (.pointer e)=>fx (P.cellsOf t) 1&&kh 0 (P.cellsOf e)&&Kv P n e
  |some (.slice e)=>fx (P.cellsOf t) 1&&kh 0 (P.cellsOf e)&&Kv P n e
  |some (.struct fs)=>decide (iC P 0 fs.toList=some (P.cellsOf t))&&fs.toList.all fun f=>Kv P n f.type
  |some (.array m e)=>fx (P.cellsOf t) (m*P.cellsOf e)&&Kv P n e
  |_=>false
def sH(T:TypeId→List AV→Prop):List Field→List AV→Prop
 |[],cs=>cs=[]
 |f::fs,cs=> ∃a b,cs=a++b∧T f.type a∧sH T fs b
def Hd(P:Program):Nat→TypeId→List AV→Prop
 |0,_,_=>False
 |n+1,t,cs=>
  match P.underlying t with
  |some .bool=> ∃b,cs=[.b b]
  |some (.int k)=> ∃x,cs=[.i k x]∧k.has x
  |some .string=> ∃l,cs=[.s l]
  |some (.pointer e)=>cs=[.nilp]∨ ∃ds,cs=[.ip ds 0]∧Hd P n e ds
  |some (.slice e)=>cs=[.nils]∨ ∃els:List (List AV),cs=[.sl (P.cellsOf e) els]∧ ∀x∈els,Hd P n e x
  |some (.struct fs)=>sH (Hd P n) fs.toList cs
  |some (.array m e)=> ∃els:List (List AV),els.length=m∧cs=els.flatten∧ ∀x∈els,Hd P n e x
  |_=>False
section
variable{P:Program}{H:Type}{enc:TypeId×Value→H}{w:World}{spare:Nat→Bool}{held:Bool}
theorem ZO{base:Nat}{a:Addr}{n:Nat}{cs:List Value}(h:w.cells? base a n=some cs):cs.length=n∧ ∀(j:Nat) (v:Value),cs[j]? =some v→w.cell? (a.add j)=some v:=by
 unfold World.cells? at h
 split at h
 ·refine⟨by rw[mapM_some_length h];simp,fun j v hj=> ?_⟩;have hl:j<n:=by have:=Bg hj;rw[mapM_some_length h]at this;simpa using this
  have:=mapM_some_get h j j (by simp[hl]);rw[this,hj]
 ·cases h
theorem cell?_lt{a:Addr}{v:Value}(h:w.cell? a=some v):a.spot=none∧a.block<w.heap.size:=by
 unfold gg at h
 split at h
 ·rename_i c e fr hb;refine⟨?_,(od.1 hb).1⟩
  split at h
  ·cases h
  ·rename_i hs;simpa using hs
 ·cases h
theorem Xz{base:Nat}{a:Addr}{n:Nat}{cs:List Value}(h:w.cells? base a n=some cs)(hn:0<n): ∃b off,a=⟨b,off,none⟩∧b<w.heap.size∧E1 w b off cs∧cs.length=n:=by
 obtain⟨h1,h2⟩:=ZO h;obtain⟨b,off,sp⟩:=a;have h0:=h2 0 cs[0] (by simp);have:=cell?_lt h0;simp only[Addr.add,uc]at this;obtain⟨rfl,hlt⟩:=this;exact⟨b,off,rfl,hlt,fun j v hj=>by have:=h2 j v hj;rwa [Hc]at this,h1⟩
theorem AaW{p:Nat→List AV→List Value→Prop}: ∀(len:Nat),(∀i,i<len→ ∃x y,p i x y)→ ∃(xs:List (List AV)) (ys:List (List Value)),xs.length=len∧ys.length=len∧ ∀(i:Nat) x y,xs[i]? =some x→ys[i]? =some y→p i x y
 |0,_=>⟨[],[],rfl,rfl,fun i x y h=>by simp at h⟩
 |n+1,h=>by
  obtain⟨xs,ys,h1,h2,h3⟩:=AaW n fun i hi=>h i (by omega);obtain⟨x,y,hp⟩:=h n (by omega);refine⟨xs++[x],ys++[y],by simp[h1],by simp[h2],fun i u v hu hv=> ?_⟩
  by_cases hi:i<n
  ·rw[bq (by omega)]at hu hv;exact h3 i u v hu hv
  ·have hlt:=Bg hu;simp only[an,ba,bu]at hlt;obtain rfl:i=n:=by omega
   rw[bo (by omega),h1]at hu;rw[bo (by omega),h2]at hv;simp only[jz,bw,ae]at hu hv;subst hu;subst hv;exact hp
theorem eJ{C:CG}: ∀{xs:List (List AV)} {ys:List (List Value)},xs.length=ys.length→(∀(i:Nat) x y,xs[i]? =some x→ys[i]? =some y→Br C x y)→Bl C xs ys
 |[],[],_,_=>rfl
 |[],_::_,h,_=>by simp at h
 |_::_,[],h,_=>by simp at h
 |x::xs,y::ys,h,k=>⟨y,ys,rfl,k 0 x y rfl rfl,eJ (by simpa using h) fun i u v hu hv=>k (i+1) u v (by simpa using hu) (by simpa using hv)⟩
theorem gG{sz:Nat}: ∀(l:List (List Value)),(∀y∈l,y.length=sz)→ ∀(j:Nat) (v:Value),l.flatten[j]? =some v→ ∃(i r:Nat) (y:List Value),j=i*sz+r∧l[i]? =some y∧y[r]? =some v
 |[],_,j,v,h=>by simp at h
 |y::l,hy,j,v,h=>by
  rw[bz]at h;have hyl:=hy y bg;rcases ef j y.length with hlt|hge
  ·rw[bq hlt]at h;exact⟨0,j,y,by simp,rfl,h⟩
  ·rw[bo hge]at h;obtain⟨i,r,u,h1,h2,h3⟩:=gG l (fun z hz=>hy z (a8 _ hz)) _ _ h;exact⟨i+1,r,u,by rw[ci];omega,by simpa using h2,h3⟩
theorem uG(φ:Nat→Place)(w:World)(b:Nat): ¬(⟨φ,[],w,[]⟩:CG).own b:=by
 rintro(⟨id,h,_⟩|h)
 ·exact absurd h (mn _)
 ·cases h
def Reads(P:Program)(φ:Nat→Place)(w:World)(n:Nat)(t:TypeId)(cs:List Value):Prop:=
 ∃cs1:List AV,Hd P n t cs1∧Br ⟨φ,[],w,[]⟩ cs1 cs∧cs1.all scal=true∧cs.length=P.cellsOf t
theorem WF(φ:Nat→Place)(n:Nat)(T: ∀f:Field,Kv P n f.type=true→ ∀cs:List Value,(∃fuel x,DataW.trod enc P w 0 spare held fuel f.type cs=some x)→Reads P φ w n f.type cs):
  ∀(fs:List Field) (pos tot:Nat) (cs:List Value),fs.all (fun f=>Kv P n f.type)=true→iC P pos fs=some tot→cs.length=tot→
   (∀f∈fs,∃fuel x,DataW.trod enc P w 0 spare held fuel f.type ((cs.drop f.offset).take (P.cellsOf f.type))=some x)→
   ∃cs1:List AV,sH (Hd P n) fs cs1∧Br ⟨φ,[],w,[]⟩ cs1 (cs.drop pos)∧cs1.all scal=true
 |[],pos,tot,cs,_,hc,hl,_=>by
  simp only[iC,ae]at hc;subst hc;exact⟨[],rfl,by rw[fi (by omega)];rfl,rfl⟩
 |f::fs,pos,tot,cs,hp,hc,hl,hr=>by
  simp only[fy,af]at hp;simp only[iC]at hc
  split at hc
  ·rename_i ho;rw[lu]at ho;obtain⟨cs1,t1,r1,s1,l1⟩:=T f hp.1 _ (hr f bg);obtain⟨bs,t2,r2,s2⟩:=WF φ n T fs _ tot cs hp.2 hc hl fun g hg=>hr g (a8 _ hg);refine⟨cs1++bs,⟨cs1,bs,rfl,t1,t2⟩,?_,by simp only[ka,s1,s2,Bool.and_self]⟩;rw[ho]at r1 l1;have hsplit:cs.drop pos=(cs.drop pos).take (P.cellsOf f.type)++cs.drop (pos+P.cellsOf f.type):=by
    rw[←cw,c9]
   rw[hsplit];exact pg r1 r2
  ·cases hc
theorem SY(φ:Nat→Place): ∀(n:Nat) (t:TypeId),Kv P n t=true→ ∀(fuel:Nat) (cs:List Value) (x:DataW H×List MemPlace),DataW.trod enc P w 0 spare held fuel t cs=some x→Reads P φ w n t cs
 |0,_,h=>by simp[Kv]at h
 |n+1,t,h=>by
  intro fuel cs x hx;simp only[Kv]at h;cases hu:P.underlying t with
  |none=>rw[hu]at h;simp at h
  |some d=>
   rw[hu]at h;cases fuel with
   |zero=>simp[DataW.trod]at hx
   |succ fuel=>
    cases d<;>simp only[ah]at h
    case bool=>
     rw[lu]at h;rcases cs with _|⟨v,_|⟨u,r⟩⟩
     ·simp[DataW.trod,hu]at hx
     ·cases v<;>simp[DataW.trod,hu]at hx;rename_i b;exact⟨[.b b],by simp only[Hd,hu];exact⟨b,rfl⟩,⟨_,_,rfl,rfl,rfl⟩,rfl,h.symm⟩
     ·cases v<;>simp[DataW.trod,hu]at hx
    case int k=>
     rw[lu]at h;rcases cs with _|⟨v,_|⟨u,r⟩⟩
     ·simp[DataW.trod,hu]at hx
     ·cases v<;>simp[DataW.trod,hu]at hx;rename_i k' z;obtain⟨⟨rfl,hwf⟩,_⟩:=hx;refine⟨[.i k' z],?_,⟨_,_,rfl,rfl,rfl⟩,rfl,h.symm⟩;simp only[Hd,hu];simp only[Lit.wf,af,t8]at hwf;exact⟨z,rfl,hwf⟩
     ·cases v<;>simp[DataW.trod,hu]at hx
    case string=>
     rw[lu]at h;rcases cs with _|⟨v,_|⟨u,r⟩⟩
     ·simp[DataW.trod,hu]at hx
     ·cases v<;>simp[DataW.trod,hu]at hx;rename_i b;exact⟨[.s b.data.toList],by simp only[Hd,hu];exact⟨_,rfl⟩,⟨_,_,rfl,by simp[Gk],rfl⟩,rfl,h.symm⟩
     ·cases v<;>simp[DataW.trod,hu]at hx
    case pointer e=>
     simp only[af,lu,Nat.blt_eq]at h;obtain⟨⟨h1,h2⟩,h3⟩:=h;rcases cs with _|⟨v,_|⟨u,r⟩⟩
     ·simp[DataW.trod,hu]at hx
     ·cases v<;>try (simp[DataW.trod,hu]at hx;done)
      rename_i p;cases p with
      |none=>exact⟨[.nilp],by simp only[Hd,hu];left;trivial,⟨_,_,rfl,rfl,rfl⟩,rfl,h1.symm⟩
      |some p=>
       simp only[DataW.trod,hu]at hx;obtain⟨y,hy,_⟩:=aj.1 hx;obtain⟨cs',hc,ht⟩:=ad.1 hy;obtain⟨b,off,rfl,hlt,hh,hl⟩:=Xz hc h2;obtain⟨cs1,t1,r1,s1,l1⟩:=SY φ n e h3 fuel cs' y ht;refine⟨[.ip cs1 0],by simp only[Hd,hu];exact .inr ⟨cs1,rfl,t1⟩,⟨_,_,rfl,⟨b,off,cs',rfl,hlt,uG φ w b,hh,s1,r1⟩,rfl⟩,rfl,h1.symm⟩
     ·cases v<;>simp[DataW.trod,hu]at hx
    case slice e=>
     simp only[af,lu,Nat.blt_eq]at h;obtain⟨⟨h1,h2⟩,h3⟩:=h;rcases Go.Deep.open_slice hu hx with ⟨rfl,_⟩|⟨a,len,cap,m,n',D,Pl,rfl,hb,hl,hm,hmm,rfl,hel⟩
     ·exact⟨[.nils],by simp only[Hd,hu];left;trivial,⟨_,_,rfl,rfl,rfl⟩,rfl,h1.symm⟩
     ·have hlm:len≤m:=by rw[hmm];split<;>omega
      obtain⟨xs,ys,x1,y1,hp⟩:=AaW (p:=fun i x y=>Hd P n e x∧Br ⟨φ,[],w,[]⟩ x y∧x.all scal=true∧y.length=P.cellsOf e∧w.cells? 0 (a.add (i*P.cellsOf e)) (P.cellsOf e)=some y) len fun i hi=>by
       obtain⟨cs',c1,c2⟩:=hel i (by omega);obtain⟨cs1,t1,r1,s1,l1⟩:=SY φ n e h3 n' cs' _ c2;exact⟨cs1,cs',t1,r1,s1,l1,c1⟩
      have getx: ∀x∈xs,∃(i:Nat) (y:List Value),xs[i]? =some x∧ys[i]? =some y:=by
       intro x hx;obtain⟨i,hi⟩:=jm.1 hx;have:=Bg hi;exact⟨i,ys[i]'(by omega),hi,ab (by omega)⟩
      have gety: ∀y∈ys,y.length=P.cellsOf e:=by
       intro y hy;obtain⟨i,hi⟩:=jm.1 hy;have:=Bg hi;exact(hp i (xs[i]'(by omega)) y (ab (by omega)) hi).2.2.2.1
      refine⟨[.sl (P.cellsOf e) xs],?_,⟨_,_,rfl,?_,rfl⟩,rfl,h1.symm⟩
      ·simp only[Hd,hu];refine .inr ⟨xs,rfl,fun x hx=> ?_⟩;obtain⟨i,y,hi,hy⟩:=getx x hx;exact(hp i x y hi hy).1
      ·by_cases h0:len=0
       ·subst h0;exact .inr ⟨c0 x1,a,cap,rfl⟩
       ·have hpos:0<len:=by omega
        obtain⟨y0,hy0⟩: ∃y,ys[0]? =some y:=⟨_,ab (by omega)⟩;obtain⟨x0,hx0⟩: ∃y,xs[0]? =some y:=⟨_,ab (by omega)⟩;have hc0:=(hp 0 x0 y0 hx0 hy0).2.2.2.2;simp only[kc,Addr.add,uc]at hc0;obtain⟨b,off,rfl,hlt,_,_⟩:=Xz hc0 h2;refine .inl ⟨b,off,cap,ys,by rw[x1],by rw[x1];exact hl,hlt,uG φ w b,?_,fun x hx=> ?_,eJ (by rw[x1,y1]) fun i x y hi hy=>(hp i x y hi hy).2.1⟩
        ·intro j v hj;obtain⟨i,r,y,rfl,hy,hr⟩:=gG ys gety j v hj;have hi:=Bg hy;have hc:=(hp i (xs[i]'(by omega)) y (ab (by omega)) hy).2.2.2.2;have:=(ZO hc).2 r v hr
         rwa [Hc,Hc,iw]at this
        ·obtain⟨i,y,hi,hy⟩:=getx x hx;have:=hp i x y hi hy;exact⟨by rw[←this.2.1.length];exact this.2.2.2.1,this.2.2.1⟩
    case struct fs=>
     simp only[af,t8]at h;obtain⟨h1,h2⟩:=h;simp only[DataW.trod,hu]at hx
     split at hx
     ·rename_i hl;obtain⟨xs,hxs,_⟩:=aj.1 hx;obtain⟨cs1,t1,r1,s1⟩:=WF (enc:=enc) (spare:=spare) (held:=held) φ n (fun f hf cs hh=>by obtain⟨fl,x,hh⟩:=hh;exact SY φ n f.type hf fl cs x hh) fs.toList 0 _ cs h2 h1 hl fun f hf=>by
       obtain⟨i,hi⟩:=jm.1 hf;have:=mapM_some_get hxs i f hi;have hlen:=mapM_some_length hxs;have hi':=Bg hi;rw[ab (by omega)]at this;exact⟨fuel,_,this⟩
      exact⟨cs1,by simp only[Hd,hu];exact t1,by simpa using r1,s1,hl⟩
     ·cases hx
    case array m e=>
     simp only[af,lu]at h;obtain⟨h1,h2⟩:=h;simp only[DataW.trod,hu]at hx
     split at hx
     ·rename_i hl;obtain⟨xs,hxs,_⟩:=aj.1 hx;have hxl:=mapM_some_length hxs;simp only[List.length_range]at hxl;obtain⟨els,ys,x1,y1,hp⟩:=AaW (p:=fun i x y=>Hd P n e x∧Br ⟨φ,[],w,[]⟩ x y∧x.all scal=true∧y=(cs.drop (i*P.cellsOf e)).take (P.cellsOf e)∧y.length=P.cellsOf e) m fun i hi=>by
       have:=mapM_some_get hxs i i (by simp[hi]);rw[ab (by omega)]at this;obtain⟨cs1,t1,r1,s1,l1⟩:=SY φ n e h2 fuel _ _ this;exact⟨cs1,_,t1,r1,s1,rfl,l1⟩
      have hys: ∀k,k≤m→(ys.take k).flatten=cs.take (k*P.cellsOf e):=by
       intro k
       induction k with
       |zero=>intro _;simp
       |succ k ih=>
        intro hk;obtain⟨y,hy⟩: ∃y,ys[k]? =some y:=⟨_,ab (by omega)⟩;have:=hp k (els[k]'(by omega)) y (ab (by omega)) hy;rw[List.take_add_one,hy,gy,ih (by omega)];simp only[Option.toList_some,bz,o6,ei];rw[this.2.2.2.1,ci,List.take_add]
      have hfl:ys.flatten=cs:=by
       have:=hys m (bc _)
       rwa [au (by omega),au (by omega)]at this
      refine⟨els.flatten,?_,?_,?_,hl⟩
      ·simp only[Hd,hu];refine⟨els,x1,rfl,fun x hx=> ?_⟩;obtain⟨i,hi⟩:=jm.1 hx;have:=Bg hi;exact(hp i x (ys[i]'(by omega)) hi (ab (by omega))).1
      ·have:=qz (eJ (C:=⟨φ,[],w,[]⟩) (by rw[x1,y1]) fun i x y hi hy=>(hp i x y hi hy).2.1)
       rwa [hfl]at this
      ·refine Q9 fun x hx=> ?_;obtain⟨i,hi⟩:=jm.1 hx;have:=Bg hi;exact(hp i x (ys[i]'(by omega)) hi (ab (by omega))).2.2.1
     ·cases hx
end
end
section
section
variable{T:GI→Oper→Bool}{P:Program}{tb:CV}
def Zj(P:Program)(n:Nat)(t:TypeId)(x:AV):Prop:=if FJ P t=true then∃cs,x= .agg cs∧Hd P n t cs else Hd P n t [x]
theorem sF{φ:Nat→Place}{w:World}{D:CG}(X:IV ⟨φ,[],w,[]⟩ D):Go.RowKit.Below w.heap.size w D.w:=
 ⟨X.rest.1,X.rest.2.1,X.rest.2.2,X.size,fun k hk=>(X.same k hk (uG φ w k)).1⟩
theorem inv_empty(φ:Nat→Place)(w:World)(hg: ∀g cs,tb.gl g=some cs→g<w.heap.size∧cs.all scal=true∧ ∃vs,E1 w g 0 vs∧Br ⟨φ,[],w,[]⟩ cs vs)(hi: ∀g∈tb.it,∃m:Int,w.cell? ⟨g,0,none⟩=some (.int .i64 m)):Inv tb ⟨φ,[],w,[]⟩:=
 ⟨fun id o h=>by simp at h,fun i j h=>absurd h (mn _),fun i h=>absurd h (mn _),fun g cs h=>by
  obtain⟨h1,h2,h3⟩:=hg g cs h;exact⟨h1,uG φ w g,h2,h3⟩,fun g h=>⟨uG φ w g,hi g h⟩,fun b h=>by cases h⟩
theorem value_rep{H:Type}{enc:TypeId×Value→H}{W:World}{base:Nat}{spare:Nat→Bool}{held:Bool}{n:Nat}{t:TypeId}(hp:Kv P n t=true){v:Value}{d:DataW H}{ps:List MemPlace}(hv:Value.okWide P W .any base t v)
  (h:DataW.Trod enc P W 0 spare held t v d ps) (φ:Nat→Place): ∃x:AV,Zj P n t x∧Gk ⟨φ,[],W,[]⟩ x v:=by
 obtain⟨fuel,h⟩:=h;obtain⟨cs1,t1,r1,s1,l1⟩:=SY φ n t hp fuel _ _ h;cases ha:FJ P t with
 |true=>
  have hc: ∃cs,v= .agg cs:=by
   unfold Value.okWide at hv;simp only[FJ]at ha
   split at hv
   ·obtain⟨cs,e,_⟩:=hv;exact⟨cs,e⟩
   ·obtain⟨cs,e,_⟩:=hv;exact⟨cs,e⟩
   ·rename_i h1 h2
    split at ha
    ·rename_i fs hu;exact absurd hu (h1 fs)
    ·rename_i m e hu;exact absurd hu (h2 m e)
    ·cases ha
  obtain⟨cs,rfl⟩:=hc;exact⟨.agg cs1,by simp only[Zj,ha,uc];exact⟨cs1,rfl,t1⟩,cs.toList,by simp,s1,by simpa [sn]using r1⟩
 |false=>
  have hna: ∀cs,v≠ .agg cs:=by
   rintro cs rfl;simp only[FJ]at ha;unfold Value.okWide at hv;cases n with
   |zero=>simp[Kv]at hp
   |succ n=>
    simp only[Kv]at hp
    split at hp<;>rename_i hu<;>simp only[hu]at hv ha<;>first
     |(simp only[Cell.okWide,Cell.ok,hu]at hv;done)
     |(cases ha;done)
     |(cases hp;done)
  have hc:v.cells.toList=[v]:=by
   cases v<;>first
    |rfl
    |exact absurd rfl (hna _)
  rw[hc]at r1;have hl:=r1.length;obtain⟨x,rfl⟩: ∃x,cs1=[x]:=by
   match cs1,hl with
   |[x],_=>exact⟨x,rfl⟩
  obtain⟨u,q,e,h1,h2⟩:=r1;simp only[gr]at e;obtain⟨rfl,_⟩:=e;exact⟨x,by simp only[Zj,ha,ah,ud];exact t1,h1⟩
def U1(P:Program)(n:Nat):List TypeId→List AV→Prop
 |[],xs=>xs=[]
 |t::ts,xs=> ∃x r,xs=x::r∧Zj P n t x∧U1 P n ts r
theorem cX{H:Type}{enc:TypeId×Value→H}{W:World}{base:Nat}{spare:Nat→Bool}{held:Bool}{n:Nat}(φ:Nat→Place): ∀{ts:List TypeId} {vs:List Value} {ds:List (DataW H)} {ps:List MemPlace},ts.all (Kv P n)=true→
  (∀(j:Nat) t v,ts[j]? =some t→vs[j]? =some v→Value.okWide P W .any base t v)→DataW.TrodAll enc P W 0 spare held ts vs ds ps→ ∃xs:List AV,U1 P n ts xs∧Br ⟨φ,[],W,[]⟩ xs vs∧ds.length=ts.length
 |[],[],[],_,_,_,_=>⟨[],rfl,rfl,rfl⟩
 |[],[],_::_,_,_,_,h=>h.elim
 |[],_::_,_,_,_,_,h=>by cases ‹List (DataW H)› <;>exact h.elim
 |_::_,[],_,_,_,_,h=>by cases ‹List (DataW H)› <;>exact h.elim
 |_::_,_::_,[],_,_,_,h=>h.elim
 |t::ts,v::vs,d::ds,ps,hp,hv,⟨p,q,h1,h2,_⟩=>by
  simp only[fy,af]at hp;obtain⟨x,t1,r1⟩:=value_rep hp.1 (hv 0 t v rfl rfl) h1 φ;obtain⟨xs,t2,r2,l2⟩:=cX φ hp.2 (fun j t v ht hv'=>hv (j+1) t v (by simpa using ht) (by simpa using hv')) h2;exact⟨x::xs,⟨x,xs,rfl,t1,t2⟩,⟨v,vs,rfl,r1,r2⟩,by simp[l2]⟩
theorem US{H:Type}{enc:TypeId×Value→H}(hl:laidOutB P=true){W W':World}(hb:Go.RowKit.Below W.heap.size W W'): ∀{ts:List TypeId} {vs:List Value} {ds:List (DataW H)} {ps:List MemPlace},
  ts.all (fun t=>P.readableRec t&&decide (t<P.types.size))=true→DataW.TrodAll enc P W 0 (fun _=>true) true ts vs ds ps→(∀x∈ps,x.block<W.heap.size)→DataW.TrodAll enc P W' 0 (fun b=>decide (b<W.heap.size)) true ts vs ds ps
 |[],[],[],_,_,h,_=>h
 |[],[],_::_,_,_,h,_=>h.elim
 |[],_::_,_,_,_,h,_=>by cases ‹List (DataW H)› <;>exact h.elim
 |_::_,[],_,_,_,h,_=>by cases ‹List (DataW H)› <;>exact h.elim
 |_::_,_::_,[],_,_,h,_=>h.elim
 |t::ts,v::vs,d::ds,ps,hp,⟨p,q,h1,h2,e⟩,hlt=>by
  simp only[fy,af,t8]at hp;subst e;exact⟨p,q,Go.RowKit.Below.trod hl hp.1.1 hp.1.2 h1 hb fun x hx=>hlt x (qt _ hx),US hl hb hp.2 h2 fun x hx=>hlt x (qk _ hx),rfl⟩
theorem contract(ft:Fits T P tb){k:FuncId}{f:Func}{bt:TypeId}{n:Nat}(hl:laidOutB P=true)(hr:f.resultTypes= #[bt])(hb:P.underlying bt=some .bool)(hp:f.params.toList.all (Kv P n)=true)
  (hrd:f.params.toList.all (fun t=>P.readableRec t&&decide (t<P.types.size))=true) {H:Type} {enc:TypeId×Value→H} {s:ChangeSpec} (hs0:s.vars=[]) (hs: ∀ds:List (DataW H),ds.length=f.params.size→s.fn H ds={results:=[.lit (.bool true)],args:=ds})
  {W:World} {base:Nat} {args:Array Value} {ds gs:List (DataW H)} {before:List MemPlace} (hval: ∀(j:Nat) t v,f.params[j]? =some t→args[j]? =some v→Value.okWide P W .any base t v)
  (hW:DataW.Whole enc P f.params.toList s.vars false W args.toList ds gs before)
  (hgl: ∀g cs,tb.gl g=some cs→g<W.heap.size∧cs.all scal=true∧ ∃vs,E1 W g 0 vs∧Br ⟨fun _=>⟨0,0,0⟩,[],W,[]⟩ cs vs)
  (hit: ∀g∈tb.it,∃m:Int,W.cell? ⟨g,0,none⟩=some (.int .i64 m))
  (law: ∀xs:List AV,U1 P n f.params.toList xs→Br ⟨fun _=>⟨0,0,0⟩,[],W,[]⟩ xs args.toList→ ∃h,C3 tb k xs []=some (.b true,h)):
  Calls P k args W fun e W'=> ∃v,e= .returned v∧s.post enc P f false true false false W args v W':=by
 have hW':=hW;obtain⟨p,q,hA,hV,rfl,hfz,hnd⟩:=hW;rw[hs0]at hV;obtain⟨rfl,rfl⟩:=Go.ChangeShapes.trodVars_none hV;obtain⟨xs,t1,r1,l1⟩:=cX (fun _=>⟨0,0,0⟩) hp (fun j t v ht hv=>hval j t v (by simpa using ht) (by simpa using hv)) hA;obtain⟨h,hd⟩:=law xs t1 r1;have I:Inv tb ⟨fun _=>⟨0,0,0⟩,[],W,[]⟩:=inv_empty _ W hgl hit;have hc:=den_calls ft (C:=⟨fun _=>⟨0,0,0⟩,[],W,[]⟩) I r1 hd;refine hc.mono fun e W' ⟨v,D,he,X,ID,hw,hH,hv⟩=> ?_;subst he;subst hw;obtain rfl:v= .bool true:=hv;have hbl:=sF X;have hlt: ∀x∈p,x.block<W.heap.size:=fun x hx=>hW'.lt x (by simpa using hx);have hfn:=hs (ds++[]) (by simpa using l1);refine⟨_,rfl,ds,[],p++[],[],p,[],hW',?_,?_,?_,hbl.frame _,fun e=>by cases e⟩
 ·rw[hfn,hr];refine⟨[],[],⟨1,?_⟩,rfl,rfl⟩;simp[DataW.trod,hb,sn]
 ·rw[hfn];simpa using US hl hbl hrd hA hlt
 ·rw[hs0,hfn]
  rfl
def uR{H:Type}:DataW H→Option AV
 | .lit (.int k n)=>some (.i k n)
 | .lit (.string l)=>some (.s l)
 | .lit (.bool b)=>some (.b b)
 | .iface _ _=>some (.ifc 0 .junk)
 |_=>none
def mapO{α β:Type}(F:α→Option β):List α→Option (List β)
 |[]=>some []
 |x::r=>(F x).bind fun x=>(mapO F r).map (x:: ·)
theorem uN{α β:Type}{F:α→Option β}: ∀{l:List α} {r:List β},mapO F l=some r→l.length=r.length∧ ∀(i:Nat) x,l[i]? =some x→ ∃y,r[i]? =some y∧F x=some y
 |[],_,h=>by simp only[mapO,ae]at h;subst h;simp
 |x::l,_,h=>by
  simp only[mapO]at h;obtain⟨y,hy,h⟩:=ad.1 h;obtain⟨r,hr,rfl⟩:=aj.1 h;obtain⟨h1,h2⟩:=uN hr;refine⟨by simp[h1],fun i z hz=> ?_⟩;cases i with
  |zero=>simp only[bw,ae]at hz ⊢;subst hz;exact⟨y,rfl,hy⟩
  |succ i=>simp only[di]at hz ⊢;exact h2 i z hz
theorem AbQ{C:CG}: ∀{xs:List AV} {ys:List Value},xs.length=ys.length→(∀(i:Nat) x y,xs[i]? =some x→ys[i]? =some y→Gk C x y)→Br C xs ys
 |[],[],_,_=>rfl
 |[],_::_,h,_=>by simp at h
 |_::_,[],h,_=>by simp at h
 |x::xs,y::ys,h,g=>⟨y,ys,rfl,g 0 x y rfl rfl,AbQ (by simpa using h) fun i x y hx hy=>g (i+1) x y (by simpa using hx) (by simpa using hy)⟩
theorem sZ{H:Type}{enc:TypeId×Value→H}{W:World}{spare:Nat→Bool}{held:Bool}{C:CG}{fuel:Nat}{t:TypeId}{v:Value}{x:DataW H}{p:List MemPlace}{a:AV}(h:DataW.trod enc P W 0 spare held fuel t [v]=some (x,p))(ha:uR x=some a):Gk C a v∧scal a=true:=by
 cases fuel with
 |zero=>simp[DataW.trod]at h
 |succ fuel=>
  cases hu:P.underlying t with
  |none=>simp[DataW.trod,hu]at h
  |some d=>
   have hx:(∃k n,x= .lit (.int k n)∧a= .i k n)∨(∃l,x= .lit (.string l)∧a= .s l)∨(∃b,x= .lit (.bool b)∧a= .b b)∨ ∃n d,x= .iface n d∧a= .ifc 0 .junk:=by
    unfold uR at ha
    split at ha<;>simp only[ae,reduceCtorEq]at ha<;>subst ha<;>simp
   unfold DataW.trod at h;rw[hu]at h;rcases hx with ⟨k,n,rfl,rfl⟩|⟨l,rfl,rfl⟩|⟨b,rfl,rfl⟩|⟨n,y,rfl,rfl⟩
   all_goals (split at h<;>(try split at h)<;>(try split at h)<;>simp_all [Gk,scal,aj,ad])
   obtain⟨rfl,_⟩:=h;simp
theorem tab_rep{H:Type}{enc:TypeId×Value→H}{W:World}{spare:Nat→Bool}{held:Bool}{C:CG}{fuel:Nat}{t e:TypeId}{m:Nat}{cs:List Value}{ds:List (DataW H)}{p:List MemPlace}{cs1:List AV}
  (hu:P.underlying t=some (.array m e)) (hc:P.cellsOf e=1) (hct:P.cellsOf t=m) (h:DataW.trod enc P W 0 spare held fuel t cs=some (.agg ds,p)) (ha:mapO uR ds=some cs1):Br C cs1 cs∧cs1.all scal=true:=by
 cases fuel with
 |zero=>simp[DataW.trod]at h
 |succ fuel=>
  simp only[DataW.trod,hu,hc,hct]at h
  split at h
  ·rename_i hl;obtain⟨xs,hxs,h⟩:=aj.1 h;simp only[ch,DataW.agg.injEq]at h;obtain⟨rfl,_⟩:=h;have hxl:=mapM_some_length hxs;simp only[List.length_range]at hxl;obtain⟨g1,g2⟩:=uN ha;simp only[cj]at g1;have key: ∀(i:Nat) a,cs1[i]? =some a→ ∃v,cs[i]? =some v∧Gk C a v∧scal a=true:=fun i a hi=>by
    have hi':=Bg hi;have:=mapM_some_get hxs i i (by rw[List.getElem?_range (by omega)]);have hd:(cs.drop (i*1)).take 1=[cs[i]'(by omega)]:=by
     rw[qr,da (by omega)];rfl
    rw[hd,ab (by omega)]at this;obtain⟨y,hy,hf⟩:=g2 i (xs[i]'(by omega)).1 (by rw[ge,ab (by omega)];rfl);rw[hi]at hy;cases hy;exact⟨_,ab (by omega),sZ this hf⟩
   refine⟨AbQ (by omega) fun i x y hx hy=> ?_,?_⟩
   ·obtain⟨v,h1,h2,_⟩:=key i x hx;rw[hy]at h1;cases h1;exact h2
   ·rw[cb];intro x hx;obtain⟨i,hi⟩:=jm.1 hx;obtain⟨v,_,_,h⟩:=key i x hi;exact h
  ·cases h
theorem fF{W:World}{n:String}{d:DataW Unit}: ∀{l:List (String×DataW Unit)} {ps:List MemPlace},DataW.LaidVars P W l ps→(n,d)∈l→ ∃g t cs fuel p,P.globalNamed n=some g∧(P.globals[g]?).map (·.type)=some t∧W.var? P n=some cs∧
  DataW.trod (fun _=>()) P W 0 (fun _=>true) false fuel t cs.toList=some (d,p)
 |[],_,_,hm=>by cases hm
 |(n',d')::r,ps,⟨g,t,cs,fuel,p,q,h1,h2,h3,h4,h5,_⟩,hm=>by
  rcases bm.1 hm with e|hm
  ·simp only[ch]at e;obtain⟨rfl,rfl⟩:=e;exact⟨g,t,cs,fuel,p,h1,h2,h3,h4⟩
  ·exact fF h5 hm
theorem ZF{W:World}{l:List (String×DataW Unit)}(hL:laidMet P l W){n:String}{d:DataW Unit}{a:AV}{g:Nat}{t:TypeId}(hm:(n,d)∈l)(hg:P.globalNamed n=some g)(ht:(P.globals[g]?).map (·.type)=some t)
  (hu: ∃m,P.underlying t=some (.interface m)) (ha:uR d=some a):
  g<W.heap.size∧[a].all scal=true∧ ∃vs,E1 W g 0 vs∧Br ⟨fun _=>⟨0,0,0⟩,[],W,[]⟩ [a] vs:=by
 obtain⟨ps,hv,_,_⟩:=hL;obtain⟨g',t',cs,fuel,p,h1,h2,h3,h4⟩:=fF hv hm;rw[hg]at h1;cases h1;rw[ht]at h2;cases h2;obtain⟨m,hu⟩:=hu;have hc: ∃v,cs.toList=[v]:=by
  cases fuel with
  |zero=>simp[DataW.trod]at h4
  |succ fuel=>
   unfold DataW.trod at h4;rw[hu]at h4
   split at h4<;>first
    |(rename_i e;exact⟨_,e⟩)
    |(rename_i e _;exact⟨_,e⟩)
    |(cases h4;done)
    |simp_all
 obtain⟨v,hc⟩:=hc;rw[hc]at h4;obtain⟨r1,r2⟩:=sZ (C:=⟨fun _=>⟨0,0,0⟩,[],W,[]⟩) h4 ha;simp only[World.var?,hg,aa]at h3;have hlt:g<W.heap.size:=by
  rcases ef g W.heap.size with h|h
  ·exact h
  ·rw[kz h]at h3;cases h3
 refine⟨hlt,by simp[r2],cs.toList,fun j v hj=> ?_,by rw[hc];exact⟨v,[],rfl,r1,rfl⟩⟩
 split at h3
 ·rename_i cs' ty fr hh;cases h3;simp only[gg,hh,dc];simpa using hj
 ·cases h3
theorem gC{W:World}{l:List (String×DataW Unit)}(hL:laidMet P l W){n:String}{d:DataW Unit}{ds:List (DataW Unit)}{cs1:List AV}{g:Nat}{t e:TypeId}{m:Nat}(hm:(n,d)∈l)(hg:P.globalNamed n=some g)(ht:(P.globals[g]?).map (·.type)=some t)
  (hu:P.underlying t=some (.array m e)) (hc:P.cellsOf e=1) (hct:P.cellsOf t=m) (hd:d= .agg ds) (ha:mapO uR ds=some cs1):
  g<W.heap.size∧cs1.all scal=true∧ ∃vs,E1 W g 0 vs∧Br ⟨fun _=>⟨0,0,0⟩,[],W,[]⟩ cs1 vs:=by
 obtain⟨ps,hv,_,_⟩:=hL;obtain⟨g',t',cs,fuel,p,h1,h2,h3,h4⟩:=fF hv hm;rw[hg]at h1;cases h1;rw[ht]at h2;cases h2;subst hd;obtain⟨r1,r2⟩:=tab_rep (C:=⟨fun _=>⟨0,0,0⟩,[],W,[]⟩) hu hc hct h4 ha;simp only[World.var?,hg,aa]at h3;have hlt:g<W.heap.size:=by
  rcases ef g W.heap.size with h|h
  ·exact h
  ·rw[kz h]at h3;cases h3
 refine⟨hlt,r2,cs.toList,fun j v hj=> ?_,r1⟩
 split at h3
 ·rename_i cs' ty fr hh;cases h3;simp only[gg,hh,dc];simpa using hj
 ·cases h3
end
end
section
def D8(P:Program)(t:TypeId)(u:T)(I:u.α→Prop):Prop:= ∀n cs,Hd P n t cs→ ∃x,u.R (fun _=>False) [] cs x∧I x
def jE(P:Program)(fs:List Field)(u:T)(I:u.α→Prop):Prop:= ∀n cs,sH (Hd P n) fs cs→ ∃x,u.R (fun _=>False) [] cs x∧I x
section
variable{P:Program}{t e:TypeId}
theorem D8.weak{u:T}{I J:u.α→Prop}(h:D8 P t u I)(w: ∀x,I x→J x):D8 P t u J:=fun n cs k=>by
 obtain⟨x,r,i⟩:=h n cs k;exact⟨x,r,w x i⟩
theorem D8.int{k:IntKind}(hu:P.underlying t=some (.int k)):D8 P t (am k) fun x=>k.has x:=by
 intro n cs h;cases n with
 |zero=>exact h.elim
 |succ n=>
  simp only[Hd,hu]at h;obtain⟨x,rfl,hx⟩:=h;exact⟨x,rfl,hx⟩
theorem jD{k:IntKind}{m:Nat}{α:Type}{c:α→Nat}{z:α}{hs hm}(ofN: ∀i,i<m→ ∃x,c x=i)(hk: ∀x,k.has x→0≤x∧x<m)(hu:P.underlying t=some (.int k)):D8 P t (Wi α (fun x=> .i k (c x)) z hs hm) fun _=>True:=by
 intro n cs h;cases n with
 |zero=>exact h.elim
 |succ n=>
  simp only[Hd,hu]at h;obtain⟨x,rfl,hx⟩:=h;have:=hk x hx;obtain⟨y,hy⟩:=ofN x.toNat (by omega);refine⟨y,?_,trivial⟩;show [AV.i k x]=[AV.i k (c y)];rw[hy];congr 2;omega
theorem has_u{x:Int}:(IntKind.u8.has x→0≤x∧x<(256:Nat))∧(IntKind.u16.has x→0≤x∧x<(65536:Nat))∧(IntKind.u32.has x→0≤x∧x<(4294967296:Nat))∧(IntKind.u64.has x→0≤x∧x<(18446744073709551616:Nat)):=by
 simp only[IntKind.has,IntKind.min,IntKind.max,ko,gc];refine⟨fun h=> ?_,fun h=> ?_,fun h=> ?_,fun h=> ?_⟩<;>simp at h<;>omega
theorem D8.u8(hu:P.underlying t=some (.int .u8)):D8 P t bi fun _=>True:=jD (c:=sv) (m:=256) (fun i hi=>⟨bb i,by rw[gi];exact j3 hi⟩) (fun _=>has_u.1) hu
theorem D8.u32(hu:P.underlying t=some (.int .u32)):D8 P t n8 fun _=>True:=jD (c:=UInt32.toNat) (m:=4294967296) (fun i hi=>⟨pm i,by rw[nw];exact j3 hi⟩) (fun _=>has_u.2.2.1) hu
theorem D8.u64(hu:P.underlying t=some (.int .u64)):D8 P t bx fun _=>True:=jD (c:=UInt64.toNat) (m:=18446744073709551616) (fun i hi=>⟨d7 i,by rw[jb];exact j3 hi⟩) (fun _=>has_u.2.2.2) hu
theorem XS{u:T}{I:u.α→Prop}(h:D8 P e u I){n:Nat}: ∀{els:List (List AV)},(∀x∈els,Hd P n e x)→ ∃xs:List u.α,CM u (fun _=>False) [] els xs∧ ∀x∈xs,I x
 |[],_=>⟨[],trivial,fun _ h=>by cases h⟩
 |c::els,hx=>by
  obtain⟨xs,h1,h2⟩:=XS h fun y hy=>hx y (a8 _ hy);obtain⟨x,h3,h4⟩:=h n c (hx c bg);exact⟨x::xs,⟨h3,h1⟩,fun y hy=>by
   rcases bm.1 hy with rfl|hy
   ·exact h4
   ·exact h2 y hy⟩
theorem D8.sl{u:T}{I:u.α→Prop}(h:D8 P e u I)(hu:P.underlying t=some (.slice e))(hsz:P.cellsOf e=u.sz):D8 P t (db u) fun g=> ∀x∈g.l,I x:=by
 intro n cs k;cases n with
 |zero=>exact k.elim
 |succ n=>
  simp only[Hd,hu]at k;rcases k with rfl|⟨els,rfl,hels⟩
  ·exact⟨GS.nil,⟨_,rfl,rfl⟩,fun x hx=>by cases hx⟩
  ·obtain⟨xs,h1,h2⟩:=XS h hels;exact⟨GS.mk xs,⟨_,rfl,trivial,els,by simp[EX,hsz],h1⟩,h2⟩
theorem D8.arr{m:Nat}{u:T}{I:u.α→Prop}(h:D8 P e u I)(hu:P.underlying t=some (.array m e)):D8 P t (aw m u) fun g=> ∀x∈g.l,I x:=by
 intro n cs k;cases n with
 |zero=>exact k.elim
 |succ n=>
  simp only[Hd,hu]at k;obtain⟨els,hl,rfl,hels⟩:=k;obtain⟨xs,h1,h2⟩:=XS h hels;exact⟨⟨xs,by rw[←h1.length,hl]⟩,⟨els,rfl,h1⟩,h2⟩
theorem jE.one{f:Field}{u:T}{I:u.α→Prop}(h:D8 P f.type u I):jE P [f] u I:=by
 rintro n cs ⟨a,b,rfl,h1,h2⟩;obtain rfl:b=[]:=h2;rw[ei];exact h n a h1
theorem jE.cons{f:Field}{fs:List Field}{u w:T}{I:u.α→Prop}{J:w.α→Prop}(h:D8 P f.type u I)(g:jE P fs w J):jE P (f::fs) (fj u w) fun p=>I p.1∧J p.2:=by
 rintro n cs ⟨a,b,rfl,h1,h2⟩;obtain⟨x,r1,i1⟩:=h n a h1;obtain⟨y,r2,i2⟩:=g n b h2;exact⟨(x,y),⟨a,b,rfl,r1,r2⟩,i1,i2⟩
theorem D8.st{fs:Array Field}{u:T}{I:u.α→Prop}{β:Type}{f:β→u.α}{g:u.α→β}{hfg: ∀y,f (g y)=y}(h:jE P fs.toList u I)(hu:P.underlying t=some (.struct fs)):D8 P t (nc u β f g hfg) fun(y:β)=>I (f y):=by
 intro n cs k;cases n with
 |zero=>exact k.elim
 |succ n=>
  simp only[Hd,hu]at k;obtain⟨x,r,i⟩:=h n cs k;refine⟨g x,?_,?_⟩
  ·show u.R _ _ _ (f (g x));rw[hfg];exact r
  ·show I (f (g x));rw[hfg];exact i
end
theorem AbH{P:Program}{n:Nat}{t:TypeId}{u:T}{I:u.α→Prop}{v:AV}(ha:FJ P t=u.agg)(h:D8 P t u I)(k:Zj P n t v): ∃x,u.V (fun _=>False) [] v x∧I x:=by
 unfold Zj at k;cases hu:u.agg with
 |true=>
  rw[ha,hu,t6 rfl]at k;obtain⟨cs,rfl,k⟩:=k;obtain⟨x,r,i⟩:=h n cs k;exact⟨x, .inl ⟨hu,cs,rfl,r⟩,i⟩
 |false=>
  rw[ha,hu,t7 (by simp)]at k;obtain⟨x,r,i⟩:=h n [v] k;exact⟨x, .inr ⟨hu,r⟩,i⟩
def Tys(P:Program):List TypeId→(us:List T)→(BG us→Prop)→Prop
 |[],[],_=>True
 |[t],[u],I=>FJ P t=u.agg∧D8 P t u I
 |t::t'::ts,u::u'::us,I=> ∃(J:u.α→Prop) (K:BG (u'::us)→Prop),(FJ P t=u.agg∧D8 P t u J)∧Tys P (t'::ts) (u'::us) K∧ ∀x y,J x→K y→I (x,y)
 |_,_,_=>False
theorem Tys.one{P:Program}{t:TypeId}{u:T}{I:u.α→Prop}(ha:FJ P t=u.agg)(h:D8 P t u I):Tys P [t] [u] I:=⟨ha,h⟩
theorem sX{P:Program}{n:Nat}: ∀{ts:List TypeId} {us:List T} {I:BG us→Prop} {xs:List AV},(us=[]→ ∀x,I x)→Tys P ts us I→U1 P n ts xs→ ∃a:BG us,Vl (fun _=>False) [] us xs a∧I a
 |[],[],_,xs,h0,_,h=>⟨(),h,h0 rfl ()⟩
 |[t],[u],I,xs,_,hT,⟨x,r,e,h,k⟩=>by
  obtain rfl:r=[]:=k;obtain⟨a,h1,h2⟩:=AbH hT.1 hT.2 h;exact⟨a,⟨x,e,h1⟩,h2⟩
 |t::t'::ts,u::u'::us,I,xs,_,⟨J,K,hT,hR,hI⟩,⟨x,r,e,h,k⟩=>by
  obtain⟨a,h1,h2⟩:=AbH hT.1 hT.2 h;obtain⟨b,h3,h4⟩:=sX (fun e=>by cases e) hR k;exact⟨(a,b),⟨x,r,e,h1,h3⟩,hI a b h2 h4⟩
 |[],_::_,_,_,_,h,_=>h.elim
 |_::_,[],_,_,_,h,_=>by cases ‹List TypeId› <;>exact h.elim
 |[_],_::_::_,_,_,_,h,_=>h.elim
 |_::_::_,[_],_,_,_,h,_=>h.elim
theorem Spec.law{P:Program}{tb:CV}{g n:Nat}{ts:List TypeId}{As:List T}{F:BG As→Option Bool}{I:BG As→Prop}(S:Spec tb g As [du] F)(hp:tb.prim g=none)(h0:As=[]→ ∀x,I x)(hT:Tys P ts As I)(hF: ∀a,I a→F a=some true)
  {xs:List AV} (h:U1 P n ts xs): ∃h,C3 tb g xs []=some (.b true,h):=by
 obtain⟨a,ha,hi⟩:=sX h0 hT h;obtain⟨v,u,hc,_,vs,hv,w,hw,hb⟩:=(S (fun _=>False) [] xs a (fun _ h=>h.elim) (by simp[C7]) ha true (hF a hi)).call;simp only[BD,hp]at hc;obtain rfl:w= .b true:=FW.1 hb;subst hw;exact⟨u,by rw[hc,hv];rfl⟩
end
section
abbrev Y2:Nat→Prop:=fun _=>False
def OQ(t:T):T where
 α:=t.α
 sz:=t.sz
 agg:=t.agg
 dep:=t.dep
 R:=fun _ H cs x=>t.R Y2 H cs x
 zc:=t.zc
 z:=t.z
 hz:=fun _ H=>t.hz _ H
 one:=t.one
 len:=t.len
 sca:=t.sca
 men:=fun h _=>t.men h fun _ hi=>hi.elim
 mono:=fun _ h=>t.mono (fun _ hi=>hi.elim) h
 cut:=fun h a b _=>t.cut h a b fun _ hi=>hi.elim
 frz:=fun h a b c _=>t.frz (Q:=Y2) h a b c fun _ hi=>hi.elim
def T.Un0(t:T):Prop:= ∀{H G:A6} {cs ds:List AV} {x:t.α},t.R Y2 H cs x→t.R Y2 G ds x→cs=ds
theorem NJ{t:T}(h:t.Uni):t.Un0:=fun r r'=>h r r'
theorem T.Un0.pu{t:T}(h:t.Un0):(OQ t).Uni:=fun r r'=>h r r'
theorem T.Un0.prod{a b:T}(h:a.Un0)(g:b.Un0):(fj a b).Un0:=by
 rintro H G cs ds x ⟨c,d,e,h1,h2⟩ ⟨c',d',e',h1',h2'⟩;rw[e,e',h h1 h1',g h2 h2']
theorem T.Un0.iso{t:T}{β:Type}{f:β→t.α}{g:t.α→β}{hfg: ∀y,f (g y)=y}(h:t.Un0):(nc t β f g hfg).Un0:=fun r r'=>h r r'
theorem yC{t:T}(h:t.Un0){H G:A6}: ∀{c d:List (List AV)} {x:List t.α},CM t Y2 H c x→CM t Y2 G d x→c=d
 |[],[],[],_,_=>rfl
 |_::_,_::_,_::_,h1,h2=>by rw[h h1.1 h2.1,yC h h1.2 h2.2]
 |[],_::_,[],_,h2=>h2.elim
 |_::_,_,[],h1,_=>h1.elim
 |[],_,_::_,h1,_=>h1.elim
 |_::_,[],_::_,_,h2=>h2.elim
theorem ST.un0{t:T}(h:t.Un0){H G:A6}{v w:AV}: ∀{g:GS t.α},ST t Y2 H v g→ST t Y2 G w g→v=w
 | .nil,e,e'=>e.trans e'.symm
 | .mk l,⟨b,els,e,r⟩,⟨b',els',e',r'⟩=>by
  cases v<;>first|exact(show False from b).elim|skip
  case sl sz l1=>
   cases w<;>first|exact(show False from b').elim|skip
   case sl sz' l2=>
    simp only[EX]at e e'
    split at e
    ·split at e'
     ·rename_i h1 h2;cases e;cases e';rw[yC h r r'];subst h1 h2
      rfl
     ·cases e'
    ·cases e
theorem T.Un0.sl{t:T}(h:t.Un0):(db t).Un0:=by
 rintro H G cs ds x ⟨v,e,r⟩ ⟨w,e',r'⟩;rw[e,e',ST.un0 h r r']
def T.NP(t:T):Prop:= ∀{P:Nat→Prop} {H:A6} {cs:List AV} {x:t.α},t.R P H cs x→t.R Y2 H cs x
theorem T.pu_NP{t:T}:(OQ t).NP:=fun h=>h
theorem cM{α:Type}{c:α→AV}{z:α}{hs hm}:(Wi α c z hs hm).NP:=fun h=>h
theorem T.NP.V{t:T}(h:t.NP){P:Nat→Prop}{H:A6}{v:AV}{x:t.α}(r:t.V P H v x):t.V Y2 H v x:=by
 rcases r with ⟨a,cs,e,r⟩|⟨a,r⟩
 ·exact .inl ⟨a,cs,e,h r⟩
 ·exact .inr ⟨a,h r⟩
theorem T.V.unpu{t:T}{P:Nat→Prop}{H:A6}{v:AV}{x:t.α}(r:(OQ t).V P H v x):t.V P H v x:=by
 rcases r with ⟨a,cs,e,r⟩|⟨a,r⟩
 ·exact .inl ⟨a,cs,e,t.mono (fun _ hi=>hi.elim) (show t.R Y2 H cs x from r)⟩
 ·exact .inr ⟨a,t.mono (fun _ hi=>hi.elim) (show t.R Y2 H [v] x from r)⟩
theorem T.V.topu{t:T}{P:Nat→Prop}{H:A6}{v:AV}{x:t.α}(r:t.V Y2 H v x):(OQ t).V P H v x:=by
 rcases r with ⟨a,cs,e,r⟩|⟨a,r⟩
 ·exact .inl ⟨a,cs,e,r⟩
 ·exact .inr ⟨a,r⟩
section
variable{tb:CV}{Γ:Cx}
theorem xX{a:AO}{t:T}{x:t.α}(h:C4 tb Γ a (.val (OQ t) x)):C4 tb Γ a (.val t x):=fun E rv fp f H I=>T.V.unpu (h E rv fp f H I)
end
theorem h_slaG{tb:CV}{Γ:Cx}{g n sz:Nat}{cs:List AV}{t:T}{x:Ar t.α n}(hg:tb.gl g=some cs)(hr: ∀P H,(aw n t).R P H cs x)(hs:sz=t.sz):EG tb Γ (.sla n sz (.g g) none none) (some ()) fun _=> .val (db t) (.mk x.l):=by
 rintro E rv fp f H R z ⟨⟩;have hl:=(aw n t).len (hr (Pf E Γ.ss fp H) H);have hl:cs.length=n*t.sz:=hl;obtain⟨css,e,hA⟩:=hr (Pf E Γ.ss fp H) H;have hlen:css.length=n:=by rw[hA.length,x.len]
 subst hs;have hc:BV t.sz n cs=css:=YS n css cs hlen hA.lens (by rw[←hl,f9,e]);refine⟨.sl t.sz css,none,?_,rfl,JY.2 ⟨trivial,css,by simp[EX],hA⟩⟩;simp only[BA,HW,aa,eval,hg,xO,dq,dc,hl,bc,uc,val,ak,hc];rw[←hlen,f9]
def adr(t:T)(x:t.α):AV:=open Classical in if h: ∃cs,t.R Y2 [] cs x then .ip h.choose 0 else .agg []
theorem Ab5{t:T}(hu:t.Un0){H:A6}{cs:List AV}{x:t.α}(h:t.R Y2 H cs x):adr t x= .ip cs 0:=by
 have h0:t.R Y2 [] cs x:=t.mono (fun _ hi=>hi.elim) h;have he: ∃cs,t.R Y2 [] cs x:=⟨cs,h0⟩;simp only[adr,dif_pos he];rw[hu he.choose_spec h0]
theorem adr_inv{t:T}{x:t.α}(h:scal (adr t x)=true): ∃cs,adr t x= .ip cs 0∧t.R Y2 [] cs x:=by
 by_cases he: ∃cs,t.R Y2 [] cs x
 ·exact⟨he.choose,by simp only[adr,dif_pos he],he.choose_spec⟩
 ·simp only[adr,dif_neg he]at h;cases h
section
variable{tb:CV}{Γ:Cx}{a b:AO}
theorem h_iasP{t:T}{g:GS t.α}{k:IntKind}{i:Int}{sz:Nat}(hu:t.Un0)(hs:sz=t.sz)(ha:C4 tb Γ a (.val (OQ (db t)) g))(hb:C4 tb Γ b (.val (am k) i)):EG tb Γ (.ias sz a b) (DN g.l i) fun x=> .con (adr t x):=by
 intro E rv fp f H R x hx;simp only[DN]at hx
 split at hx
 ·rename_i h0;have hv:ST t Y2 H (eval tb f a) g:=by
   rcases ha E rv fp f H R with ⟨h,_⟩|⟨_,h⟩
   ·cases h
   ·obtain⟨v,e,h⟩: ∃v,[eval tb f a]=[v]∧ST t Y2 H v g:=h;cases e;exact h
  cases g with
  |nil=>simp[qn]at hx
  |mk l=>
   obtain⟨bp,els,he,r⟩:=hv;generalize hv0:eval tb f a=v at bp he;cases v<;>simp only[Nb]at bp
   ·rename_i sz' els';simp only[EX]at he
    split at he
    ·rename_i hsz;simp only[ae]at he;subst he;subst hsz hs;obtain⟨cs,hc,hr⟩:=r.get hx;have hlt:i.toNat<els'.length:=by
      rcases ef i.toNat els'.length with h|h
      ·exact h
      ·rw[dk h]at hc;cases hc
     refine⟨.ip cs 0,none,?_,rfl,?_⟩
     ·simp only[BA,BZ.1 (hb E rv fp f H R),Ir,aa,t6 h0,WY,hv0,EX,uc,hlt,hc,ak,val]
     ·refine⟨(Ab5 hu hr).symm,?_,?_⟩
      ·rw[Ab5 hu hr];have:=t.men (m:=0) hr (fun _ hi=>hi.elim);simp only[ment];omega
      ·rw[Ab5 hu hr];rfl
    ·cases he
   all_goals exact bp.elim
 ·cases hx
theorem h_ldP{t:T}{x:t.α}{ag:Bool}{n:Nat}(hag:ag=t.agg)(hn:n=t.sz)(ha:C4 tb Γ a (.con (adr t x))):EG tb Γ (.ld ag n a) (some ()) fun _=> .val t x:=by
 rintro E rv fp f H R z ⟨⟩;obtain⟨e,_,hs⟩:=ha E rv fp f H R;obtain⟨cs,h1,h2⟩:=adr_inv hs;subst hag hn;obtain⟨v,g1,g2⟩:=qm h2;have hl:=t.len h2;have hsub:sub cs 0 t.sz=cs:=by simp only[sub,dq];exact au (by omega)
 refine⟨v,none,?_,rfl,g2.mono fun _ hi=>hi.elim⟩;simp only[BA,e,h1,load,place,aa,dc,hl,bc,uc,hsub,g1,val,ak]
end
def NPs:List T→Prop
 |[]=>True
 |t::l=>t.NP∧NPs l
theorem Vl.np{P:Nat→Prop}{H:A6}: ∀{l:List T} {vs:List AV} {x:BG l},NPs l→Vl P H l vs x→Vl Y2 H l vs x
 |[],_,_,_,h=>h
 |[_],_,_,n,⟨v,e,h⟩=>⟨v,e,T.NP.V n.1 h⟩
 |_::_::_,_,_,n,⟨v,w,e,h,r⟩=>⟨v,w,e,T.NP.V n.1 h,Vl.np n.2 r⟩
theorem Spec.pu2{tb:CV}{g:Nat}{As:List T}{t u:T}{F:BG As→Option (BG [t,u])}(n:NPs As)(m:u.NP)(sp:Spec tb g As [t,u] F):Spec tb g As [OQ t,u] F:=by
 intro P h args xs _ hwf hargs r hr;obtain⟨v,u',h1,h2,vs,e,w,w',e2,h3,h4⟩:=(sp Y2 h args xs (fun _ hi=>hi.elim) hwf (hargs.np n) r hr).call;exact⟨v,u',h1,h2,vs,e,w,w',e2,T.V.topu h3,Vl.mono (fun _ hi=>hi.elim) h4⟩
end
section
def Kw:(os:List T)→BG os→List (Nat×AY)
 |[],_=>[]
 |[a],x=>[(a.sz, .val a x)]
 |a::b::r,x=>(a.sz, .val a x.1)::Kw (b::r) x.2
def JZ:(os:List T)→List AV→BG os→Prop
 |[],cs,_=>cs=[]
 |[a],cs,x=>a.R Y2 [] cs x
 |a::b::r,cs,x=> ∃c d,cs=c++d∧a.R Y2 [] c x.1∧JZ (b::r) d x.2
theorem T.NP.no{a:T}(h:a.NP){P:Nat→Prop}{H:A6}{cs:List AV}{x:a.α}(r:a.R P H cs x):a.R Y2 [] cs x:=a.mono (fun _ hi=>hi.elim) (h r)
theorem T.ofNo{a:T}{P:Nat→Prop}{H:A6}{cs:List AV}{x:a.α}(r:a.R Y2 [] cs x):a.R P H cs x:=a.mono (fun _ hi=>hi.elim) r
theorem JZ.ment: ∀{os:List T} {cs:List AV} {x:BG os},JZ os cs x→Bv cs=0
 |[],_,_,h=>by rw[show _=[]from h];rfl
 |[a],_,_,h=>Nat.le_zero.1 (a.men h fun _ hi=>hi.elim)
 |a::b::r,_,_,⟨c,d,e,h,g⟩=>by
  have h1:=a.men (m:=0) h fun _ hi=>hi.elim;have h2:=JZ.ment g;rw[e,Gs];omega
theorem JZ.pr{rv:Nat→AV}{ss:Ss}{P:Nat→Prop}{H:A6}: ∀{os:List T} {cs:List AV} {x:BG os},JZ os cs x→PR rv ss P H (Kw os x) cs
 |[],_,_,h=>h
 |[a],cs,_,h=>⟨cs,[],by simp,a.len h,T.ofNo h,rfl⟩
 |a::b::r,_,_,⟨c,d,e,h,g⟩=>⟨c,d,e,a.len h,T.ofNo h,g.pr⟩
theorem JZ.of{rv:Nat→AV}{ss:Ss}{P:Nat→Prop}{H:A6}: ∀{os:List T} {cs:List AV} {x:BG os},NPs os→PR rv ss P H (Kw os x) cs→JZ os cs x
 |[],_,_,_,h=>h
 |[a],_,_,n,⟨c,d,e,l,h,g⟩=>by
  rw[show d=[]from g,ei]at e;rw[e];exact T.NP.no n.1 h
 |a::b::r,_,_,n,⟨c,d,e,l,h,g⟩=>⟨c,d,e,T.NP.no n.1 h,JZ.of n.2 g⟩
def SC(tb:CV)(g:Nat)(os As Rs:List T)(F:BG os→BG As→Option (BG Rs×BG os)):Prop:=
 ∀(P:Nat→Prop) (h:A6) (id:Nat) (cs:List AV) (args:List AV) (o:BG os) (xs:BG As),(∀i,P i→i<h.length)→C7 h≤h.length→ ¬P id→BR h id=some cs→JZ os cs o→Vl P h As args xs→ ∀r,F o xs=some r→
  ∃v u cs',BD tb (C3 tb) h g (.ptr id 0::args)=some (v,u)∧(u.getD h).length=h.length∧(∀i,i≠id→(u.getD h)[i]? =h[i]?)∧BR (u.getD h) id=some cs'∧JZ os cs' r.2∧OutR P (u.getD h) Rs v r.1
section
variable{tb:CV}
theorem uM{m:Nat}: ∀{l:A6},(∀o∈l,DW o≤m)→C7 l≤m
 |[],_=>dz _
 |x::l,h=>by
  have h1:=h x bg;have h2:=uM (l:=l) fun o ho=>h o (a8 _ ho);simp only[C7];omega
theorem nH{G h:A6}{id:Nat}{cs:List AV}(hw:C7 h≤h.length)(hl:G.length=h.length)(hG: ∀i,i≠id→G[i]? =h[i]?)(hc:BR G id=some cs)(hm:Bv cs=0):C7 G≤G.length:=by
 refine uM fun o ho=> ?_;obtain⟨i,hi⟩:=List.getElem?_of_mem ho
 by_cases he:i=id
 ·subst he;simp only[BR,hi]at hc;cases o<;>simp only[ae]at hc
  ·subst hc;simp only[DW,hm];omega
  all_goals cases hc
 ·rw[hG i he]at hi;have:=Y3 (d8 hi);omega
def QResO(os Rs:List T)(res:List KZ):OC (BG Rs×BG os):=fun E r e f H=>(e= .ret∨e= .normal)∧ResR E Rs res r.1 f H∧ ∃id cs,E.g (Ld+1)= .ptr id 0∧BR H id=some cs∧JZ os cs r.2
abbrev SimO(tb:CV)(c:Cv)(os As Rs:List T)(o:BG os)(xs:BG As):=
 Aa tb ⟨(0, .cp Ld 0)::Vk As 1 xs,[(Ld, .cells (Kw os o)),(Ld+1, .ghost (.cp Ld 0))]⟩ c.body [] (QResO os Rs c.res)
theorem ResO.spec{Γ:Cx}{os Rs:List T}{res:List KZ}{r:BG Rs}{o:BG os}(hs:AQ Γ.ss Ld=some (.cells (Kw os o)))(hg:AQ Γ.ss (Ld+1)=some (.ghost (.cp Ld 0)))(np:NPs os)(h:lT Γ Rs res r)
  {E:QS} {rv:Nat→AV} {fp:Fp} {f:Fr} {H:A6} (I:B5 E Γ rv fp f H):ResR E Rs res r f H∧ ∃id cs,E.g (Ld+1)= .ptr id 0∧BR H id=some cs∧JZ os cs o:=by
 obtain⟨vs,h1,h2⟩:=h.spec I;obtain⟨id,cs,e1,_,e2,e3⟩:=I.slots _ _ hs;obtain⟨_,id',e4,e5⟩:=I.gh _ _ hg;refine⟨⟨Pf E Γ.ss fp H,vs,?_,h1,h2,I.le,I.base⟩,id,cs,?_,e2,JZ.of np e3⟩
 ·rintro i (h|h) hi
  ·exact h.2
  ·omega
 ·rw[e5,←e4,e1]
def QQ{Γ:Cx}{ks:List Kf}{os Rs:List T}{res:List KZ}{r:BG Rs}(o:BG os)(hs:AQ Γ.ss Ld=some (.cells (Kw os o)))(hg:AQ Γ.ss (Ld+1)=some (.ghost (.cp Ld 0)))(np:NPs os)(h:lT Γ Rs res r):Aa tb Γ .ret ks (QResO os Rs res):=
 TT ⟨some (r,o),fun E f H ⟨rv,fp,I⟩ r' hr=>by
  cases hr;exact⟨.ret,f,H,by simp[Bp,I9], .inl rfl,ResO.spec hs hg np h I⟩⟩
theorem SC.of{g:Nat}{fn:Cv}{os As Rs:List T}(hf:tb.prim g=none∧tb.fns g=some fn)(hw:fn.warm=false)(hn:fn.np=As.length+1)(hd:Rs.all (fun t=>ou t.dep 11)=true)
  (s:(o:BG os)→(xs:BG As)→SimO tb fn os As Rs o xs):SC tb g os As Rs fun o xs=>(s o xs).m:=by
 intro P h id cs args o xs hP hwf hid hc hcs hargs r hr;have hlt:id<h.length:=by
  simp only[BR]at hc
  split at hc
  ·rename_i he;exact Bg he
  ·cases hc
 let E:QS:=⟨h,P,fun i=>i≠id,hP,fun i hi e=>hid (e▸hi),fun _=> .ptr id 0⟩
 let Γ:Cx:=⟨(0, .cp Ld 0)::Vk As 1 xs,[(Ld, .cells (Kw os o)),(Ld+1, .ghost (.cp Ld 0))]⟩
 have hss: ∀j,Bn Γ.ss j→j=Ld:=by
  intro j hl;simp only[Γ,Bn,AQ]at hl
  split at hl
  ·rename_i e;exact e.symm
  ·split at hl
   ·exact hl.elim
   ·exact hl.elim
 have hl0:Bn Γ.ss Ld:=by simp only[Γ,Bn,AQ,uc];trivial
 have hPf: ∀i,P i→Pf E Γ.ss (fun _ i=>i=id) h i∧h[i]? =h[i]? :=fun i hi=>⟨.inl ⟨hP i hi,hi⟩,rfl⟩;have hcp:FR (fun _=> .ptr id 0) Γ.ss (Pf E Γ.ss (fun _ i=>i=id) h) h (.cp Ld 0) (.ptr id 0):=⟨hl0,id,rfl,rfl⟩;have I:B5 E Γ (fun _=> .ptr id 0) (fun _ i=>i=id) (((.ptr id 0::args).zipIdx).map fun p=>(p.2,p.1)) h:=by
  refine⟨bc _,fun _ _ _=>rfl,hwf,fun j i l e=> ?_,fun j l=> ?_,fun j l=> .inr rfl,fun j k i l l' _ _=>(hss j l).trans (hss k l').symm,fun j S e=> ?_,fun t φ e=> ?_,fun j φ e=> ?_⟩
  ·subst e;exact⟨hlt,fun _=>⟨fun hn=>hn rfl,by rw[hss j l];exact bc _⟩⟩
  ·simp only[ment];omega
  ·simp only[Γ,AQ]at e
   split at e
   ·cases e;exact⟨id,cs,rfl,fun i=>q7,hc,hcs.pr⟩
   ·split at e
    ·cases e;trivial
    ·cases e
  ·simp only[Γ,BP]at e;simp only[kn,bh,get]
   split at e
   ·rename_i ht;cases e;rw[t6 ht];exact hcp
   ·rename_i ht;rw[t7 ht];exact(Zf (hargs.mono hPf) t φ e).2
  ·simp only[Γ,AQ]at e
   split at e
   ·cases e
   ·split at e
    ·cases e;exact hcp
    ·cases e
 obtain⟨e,f',H',h1,he,⟨P',vs,hP',h2,h3,hle,hbase⟩,id',cs',g1,g2,g3⟩:=(s o xs).ok E _ h ⟨_,_,I⟩ r hr;obtain rfl:id'=id:=by cases g1;rfl
 have hG: ∀i,i≠id'→(H'.take h.length)[i]? =h[i]? :=by
  intro i hi;rw[dn]
  split
  ·rename_i hl;exact hbase i hl hi
  ·rename_i hl;rw[dk (by omega)]
 have hlen:(H'.take h.length).length=h.length:=by rw[aq];exact fq hle
 have hc':BR (H'.take h.length) id'=some cs':=by rw[N6 hlt];exact g2
 have hwf':C7 (H'.take h.length)≤h.length:=by
  have:=nH hwf hlen hG hc' g3.ment
  rwa [hlen]at this
 have h1':Bp tb (C3 tb) fn.body (((.ptr id' 0::args).zipIdx).map fun p=>(p.2,p.1)) h=some (e,f',H'):=by
  obtain⟨p,hp,h1⟩:=ad.1 h1;rw[hp,←h1];rfl
 obtain⟨vs',h5,h6⟩:=h3.frz (Q:=P) hwf' hP' fun t ht=>gz (cb.1 hd t ht);have hbody:body tb (C3 tb) fn (.ptr id' 0::args) h=some (Gg vs',some (H'.take h.length)):=by
  have hnp:(AV.ptr id' 0::args).length=fn.np:=by rw[hn,ba,hargs.length]
  simp only[body,hnp,uc,h1',aa];have hq:Yx fn.warm h.length H' vs=(Gg vs',some (H'.take h.length)):=by
   rw[hw];simp only[Yx,Z9,h5];rw[t6 hwf']
  rcases he with rfl|rfl
  ·simp[h2,hq]
  ·simp[h2,hq]
 refine⟨Gg vs',some (H'.take h.length),cs',?_,hlen,hG,hc',g3,vs',rfl,h6⟩;simp only[BD,hf.1];rw[R8,hf.2];simp only[aa];exact hbody
theorem callO{Γ:Cx}{g:Nat}{os As Rs:List T}{F:BG os→BG As→Option (BG Rs×BG os)}(sp:SC tb g os As Rs F)(np:NPs os){o:GI}{s:ZT}{l:List ZT}{j:Nat}{x:BG os}{y:BG As}(hc:TW tb Γ o g (s::l))(h0:OpS tb Γ s (.cp j 0))
  (hj:AQ Γ.ss j=some (.cells (Kw os x))) (hy:jF tb Γ As l y) {E:QS} {rv:Nat→AV} {fp:Fp} {f:Fr} {H:A6} (R:B5 E Γ rv fp f H) {r:BG Rs×BG os} (hr:F x y=some r):
  ∃v u,BA tb (C3 tb) (eval tb f) H o=some (v,u)∧ ∃rv' fp',B5 E ⟨Γ.ts,(j, .cells (Kw os r.2))::Γ.ss⟩ rv' fp' f (u.getD H)∧FR rv' ((j, .cells (Kw os r.2))::Γ.ss) (Pf E ((j, .cells (Kw os r.2))::Γ.ss) fp' (u.getD H)) (u.getD H) (zF Rs r.1) v:=by
 obtain⟨hl,id,e1,e2⟩:=h0 E rv fp f H R;obtain⟨id',cs,e3,e4,e5,e6⟩:=R.slots j _ hj;obtain rfl:id'=id:=by rw[e1]at e3;cases e3;rfl
 have hfp:fp j id':=(e4 id').2 rfl;have hnP: ¬Pf E Γ.ss fp H id':=by
  rintro(⟨h1,h2⟩|⟨_,_,h⟩)
  ·exact((R.fplt j id' hl hfp).2 h1).1 (E.pk id' h2)
  ·exact h j hl hfp
 obtain⟨v,u,cs',h1,h2,h3,h4,h5,h6⟩:=sp (Pf E Γ.ss fp H) H id' cs _ x y R.ltP R.wf hnP e5 (JZ.of np e6) (hy.spec R) r hr;have hw:=nH R.wf h2 h3 h4 h5.ment;have hv:rv j= .ptr id' 0:=e1;obtain⟨rv',fp',k1,kP,k2,k3⟩:=R.chgP (j:=j) (S:= .cells (Kw os r.2)) (v:=rv j) (F:=fp j) (G:=u.getD H) (by rw[hj];rfl) rfl (by rw[h2];exact bc _) (fun i _ hn=>h3 i fun e=>hn hl (e▸hfp)) (fun i hi=> .inl ⟨hl,hi⟩) (fun _=> .inl rfl) hw
  (by rw[h2];exact R.rvlt j hl) (.inr (by rw[hv];rfl)) fun rv' fp' a1 a2 _ _=>⟨id',cs',a1.trans hv,by rw[a2];exact e4,h4,h5.pr⟩
 have e2':pE tb f rv s= .ptr id' 0:=e2;refine⟨v,u,by rw[hc E rv fp f H R,bh,e2'];exact h1,rv',fp',k3,WM ?_⟩;obtain⟨vs,hvs,hV⟩:=h6;exact⟨vs,hvs,hV.mono fun i hi=>⟨(kP i hi).1,rfl⟩⟩
theorem H5{Γ:Cx}{g d:Nat}{os As Rs:List T}{F:BG os→BG As→Option (BG Rs×BG os)}{o:GI}{s:ZT}{l:List ZT}{j:Nat}{y:BG As}(sp:SC tb g os As Rs F)(np:NPs os)(x:BG os)(hc:TW tb Γ o g (s::l))(h0:OpS tb Γ s (.cp j 0))
  (hj:AQ Γ.ss j=some (.cells (Kw os x))) (hy:jF tb Γ As l y):UP tb Γ (some d) o (F x y) fun r=>⟨(d,zF Rs r.1)::Γ.ts,(j, .cells (Kw os r.2))::Γ.ss⟩:=by
 intro E rv fp f H R r hr;obtain⟨v,u,h1,rv',fp',h2,h3⟩:=callO sp np hc h0 hj hy R hr;exact⟨v,u,h1,rv',fp',h2.push h3⟩
end
end
section
set_option maxRecDepth 100000
set_option maxHeartbeats 4000000
structure AG where
 V:Int
 B:(Ar UInt8 16)
 deriving DecidableEq
def Ao:T:=nc (fj tv (aw 16 bi)) AG (fun x=>(x.V,x.B)) (fun p=>⟨p.1,p.2⟩) (fun _=>rfl)
def Cf:AN Ao tv 0:=jg (DM (Ap _))
def Cu:AN Ao (aw 16 bi) 1:=jg (Bu (Ap _))
def FY:=tr (g:=fun p=>⟨p.1,p.2⟩) (hfg:=fun _=>rfl) (px (tq .i64) (l8 16 nr)) (fun(x y:AG)=>inferInstance) (f:=fun x=>(x.V,x.B)) (by rintro⟨⟩ ⟨⟩ h;cases h;rfl)
structure AJ where
 A:AG
 Port:Int
 deriving DecidableEq
def Aw:T:=nc (fj Ao tv) AJ (fun x=>(x.A,x.Port)) (fun p=>⟨p.1,p.2⟩) (fun _=>rfl)
def FK:AN Aw Ao 0:=jg (DM (Ap _))
def Ep:AN Aw tv 17:=jg (Bu (Ap _))
def Em:=tr (g:=fun p=>⟨p.1,p.2⟩) (hfg:=fun _=>rfl) (px FY (tq .i64)) (fun(x y:AJ)=>inferInstance) (f:=fun x=>(x.A,x.Port)) (by rintro⟨⟩ ⟨⟩ h;cases h;rfl)
structure Av where
 A:AG
 Bits:Int
 deriving DecidableEq
def Al:T:=nc (fj Ao tv) Av (fun x=>(x.A,x.Bits)) (fun p=>⟨p.1,p.2⟩) (fun _=>rfl)
def Cl:AN Al Ao 0:=jg (DM (Ap _))
def C9:AN Al tv 17:=jg (Bu (Ap _))
def DA:=tr (g:=fun p=>⟨p.1,p.2⟩) (hfg:=fun _=>rfl) (px FY (tq .i64)) (fun(x y:Av)=>inferInstance) (f:=fun x=>(x.A,x.Bits)) (by rintro⟨⟩ ⟨⟩ h;cases h;rfl)
structure AE where
 Key:(Ar UInt8 32)
 Psk:(Ar UInt8 32)
 End:AJ
 Keep:Int
 Sent:UInt64
 Got:UInt64
 Allowed:(GS Av)
 deriving DecidableEq
def A5:T:=nc (fj (aw 32 bi) (fj (aw 32 bi) (fj Aw (fj tv (fj bx (fj bx (db Al))))))) AE (fun x=>(x.Key,x.Psk,x.End,x.Keep,x.Sent,x.Got,x.Allowed)) (fun p=>⟨p.1,p.2.1,p.2.2.1,p.2.2.2.1,p.2.2.2.2.1,p.2.2.2.2.2.1,p.2.2.2.2.2.2⟩) (fun _=>rfl)
def D6:AN A5 (aw 32 bi) 0:=jg (DM (Ap _))
def KX:AN A5 (aw 32 bi) 32:=jg (Bu (DM (Ap _)))
def Fa:AN A5 Aw 64:=jg (Bu (Bu (DM (Ap _))))
def HC:AN A5 tv 82:=jg (Bu (Bu (Bu (DM (Ap _)))))
def MV:AN A5 bx 83:=jg (Bu (Bu (Bu (Bu (DM (Ap _))))))
def KY:AN A5 bx 84:=jg (Bu (Bu (Bu (Bu (Bu (DM (Ap _)))))))
def CF:AN A5 (db Al) 85:=jg (Bu (Bu (Bu (Bu (Bu (Bu (Ap _)))))))
structure AW where
 Private:(Ar UInt8 32)
 Port:Int
 Mark:UInt32
 Peers:(GS AE)
 deriving DecidableEq
def Az:T:=nc (fj (aw 32 bi) (fj tv (fj n8 (db A5)))) AW (fun x=>(x.Private,x.Port,x.Mark,x.Peers)) (fun p=>⟨p.1,p.2.1,p.2.2.1,p.2.2.2⟩) (fun _=>rfl)
def H6:AN Az (aw 32 bi) 0:=jg (DM (Ap _))
def Fv:AN Az tv 32:=jg (Bu (DM (Ap _)))
def JF:AN Az n8 33:=jg (Bu (Bu (DM (Ap _))))
def BK:AN Az (db A5) 34:=jg (Bu (Bu (Bu (Ap _))))
structure At where
 Key:AP
 Value:AP
 deriving DecidableEq
def Ak:T:=nc (fj Au Au) At (fun x=>(x.Key,x.Value)) (fun p=>⟨p.1,p.2⟩) (fun _=>rfl)
def Ce:AN Ak Au 0:=jg (DM (Ap _))
def Be:AN Ak Au 1:=jg (Bu (Ap _))
structure Aq where
 Word:Int
 Key:(Ar UInt8 32)
 N:UInt64
 End:AJ
 P:Av
 deriving DecidableEq
def Ae:T:=nc (fj tv (fj (aw 32 bi) (fj bx (fj Aw Al)))) Aq (fun x=>(x.Word,x.Key,x.N,x.End,x.P)) (fun p=>⟨p.1,p.2.1,p.2.2.1,p.2.2.2.1,p.2.2.2.2⟩) (fun _=>rfl)
def AK:AN Ae tv 0:=jg (DM (Ap _))
def D9:AN Ae (aw 32 bi) 1:=jg (Bu (DM (Ap _)))
def BT:AN Ae bx 33:=jg (Bu (Bu (DM (Ap _))))
def Gl:AN Ae Aw 34:=jg (Bu (Bu (Bu (DM (Ap _)))))
def HP:AN Ae Al 52:=jg (Bu (Bu (Bu (Bu (Ap _)))))
def D1:=tr (g:=fun p=>⟨p.1,p.2.1,p.2.2.1,p.2.2.2.1,p.2.2.2.2⟩) (hfg:=fun _=>rfl) (px (tq .i64) (px (l8 32 nr) (px CA.u64 (px Em DA)))) (fun(x y:Aq)=>inferInstance) (f:=fun x=>(x.Word,x.Key,x.N,x.End,x.P)) (by rintro⟨⟩ ⟨⟩ h;cases h;rfl)
structure IS where
 l_:(GS At)
 at_:Int
 fail_:Bool
 deriving DecidableEq
def LN:T:=nc (fj (OQ (db Ak)) (fj tv du)) IS (fun x=>(x.l_,x.at_,x.fail_)) (fun p=>⟨p.1,p.2.1,p.2.2⟩) (fun _=>rfl)
def UQ:AN LN (OQ (db Ak)) 0:=jg (DM (Ap _))
structure CW where
 Key:AP
 Value:AP
 deriving DecidableEq
def LM:T:=nc (fj Au Au) CW (fun x=>(x.Key,x.Value)) (fun p=>⟨p.1,p.2⟩) (fun _=>rfl)
structure AD where
 g_:(Ar UInt16 8)
 n_:Int
 gap_:Int
 deriving DecidableEq
def AH:T:=nc (fj (aw 8 dy) (fj tv tv)) AD (fun x=>(x.g_,x.n_,x.gap_)) (fun p=>⟨p.1,p.2.1,p.2.2⟩) (fun _=>rfl)
def Dc:AN AH (aw 8 dy) 0:=jg (DM (Ap _))
def Bb:AN AH tv 8:=jg (Bu (DM (Ap _)))
def CS:AN AH tv 9:=jg (Bu (Bu (Ap _)))
structure OB where
 lo_:UInt8
 hi_:UInt8
 deriving DecidableEq
def O7:T:=nc (fj bi bi) OB (fun x=>(x.lo_,x.hi_)) (fun p=>⟨p.1,p.2⟩) (fun _=>rfl)
def QF:(Ar UInt8 32)→(Ar UInt8 32)→Bool:=Iw (l8 32 nr)
def HN:Av→Av→Bool:=Iw DA
abbrev Gb:AP:=[48,48,48,49,48,50,48,51,48,52,48,53,48,54,48,55,48,56,48,57,49,48,49,49,49,50,49,51,49,52,49,53,49,54,49,55,49,56,49,57,50,48,50,49,50,50,50,51,50,52,50,53,50,54,50,55,50,56,50,57,51,48,51,49,51,50,51,51,51,52,51,53,51,54,51,55,51,56,51,57,52,48,52,49,52,50,52,51,52,52,52,53,52,54,52,55,52,56,52,57,53,48,53,49,53,50,53,51,53,52,53,53,53,54,53,55,53,56,53,57,54,48,54,49,54,50,54,51,54,52,54,53,54,54,54,55,54,56,54,57,55,48,55,49,55,50,55,51,55,52,55,53,55,54,55,55,55,56,55,57,56,48,56,49,56,50,56,51,56,52,56,53,56,54,56,55,56,56,56,57,57,48,57,49,57,50,57,51,57,52,57,53,57,54,57,55,57,56,57,57]
abbrev str_1:AP:=[0,1,2,2,3,3,3,3,4,4,4,4,4,4,4,4,5,5,5,5,5,5,5,5,5,5,5,5,5,5,5,5,6,6,6,6,6,6,6,6,6,6,6,6,6,6,6,6,6,6,6,6,6,6,6,6,6,6,6,6,6,6,6,6,7,7,7,7,7,7,7,7,7,7,7,7,7,7,7,7,7,7,7,7,7,7,7,7,7,7,7,7,7,7,7,7,7,7,7,7,7,7,7,7,7,7,7,7,7,7,7,7,7,7,7,7,7,7,7,7,7,7,7,7,7,7,7,7,8,8,8,8,8,8,8,8,8,8,8,8,8,8,8,8,8,8,8,8,8,8,8,8,8,8,8,8,8,8,8,8,8,8,8,8,8,8,8,8,8,8,8,8,8,8,8,8,8,8,8,8,8,8,8,8,8,8,8,8,8,8,8,8,8,8,8,8,8,8,8,8,8,8,8,8,8,8,8,8,8,8,8,8,8,8,8,8,8,8,8,8,8,8,8,8,8,8,8,8,8,8,8,8,8,8,8,8,8,8,8,8,8,8,8,8,8,8,8,8,8,8,8,8,8,8,8,8]
end
section
set_option maxRecDepth 100000
set_option maxHeartbeats 4000000
def Hw:Nat:=3
def Np:Nat:=5
def No:Nat:=6
def KA:Nat:=7
def GT:Nat:=8
def FI:Nat:=9
def Mv:Nat:=10
def Mu:Nat:=12
def Nq:Nat:=13
def Nr:Nat:=14
def Ph:Nat:=15
def LV:Nat:=16
def KD:Nat:=17
def Ia:Nat:=18
def JA:Nat:=19
def II:Nat:=20
def EL:Nat:=21
def J7:Nat:=22
def vL:Nat:=23
def Hs:Nat:=26
def K6:Nat:=27
def Pi:Nat:=28
def Pj:Nat:=29
def Jq:Nat:=30
def K4:Nat:=31
def GQ:Nat:=32
def Ff:Nat:=33
def IG:Nat:=34
def LW:Nat:=35
def LY:Nat:=36
def K7:Nat:=37
def Ea:Nat:=38
def HZ:Nat:=39
def BI:Nat:=40
def Cy:Nat:=41
def EJ:Nat:=42
def Pg:Nat:=43
def Nt:Nat:=44
def Xf:Nat:=45
def Ns:Nat:=56
def HL:Nat:=57
def Nw:Nat:=58
def FA:Nat:=59
def F1:Nat:=60
def Eo:Nat:=61
def BJ:Nat:=62
def Db:Nat:=63
def KE:Nat:=64
def GU:Nat:=65
def Jt:Nat:=66
def Gw:Nat:=67
def K9:Nat:=68
def F4:Nat:=69
def Js:Nat:=70
def LX:Nat:=71
def VM:Nat:=72
def LA:Nat:=83
def Ny:Nat:=84
def KG:Nat:=85
def GL:Nat:=86
def FH:Nat:=87
def C5:Nat:=88
def Od:Nat:=89
def Oe:Nat:=90
def L9:Nat:=91
def EE:Nat:=92
def PE:Nat:=93
def Co:Nat:=94
def IE:Nat:=95
def FZ:Nat:=96
def Dg:Nat:=97
def GA:Nat:=106
def Nx:Nat:=107
def IN:Nat:=108
def EU:Nat:=109
def D7:Nat:=110
def Fe:Nat:=111
def Dn:Nat:=112
def CB:Nat:=113
def G9:Nat:=114
def EC:Nat:=115
def IJ:Nat:=116
def DI:Nat:=117
def Pk:Nat:=118
def DH:Nat:=119
def ED:Nat:=120
def Ic:Nat:=121
def DK:Nat:=122
def IK:Nat:=123
def DJ:Nat:=124
def DC:Nat:=125
def Mb:Nat:=126
def Di:Nat:=127
def Nv:Nat:=128
def Dh:Nat:=129
def Bt:Nat:=130
def Fq:Nat:=131
def Bs:Nat:=132
def Fo:Nat:=133
def Bo:Nat:=134
def Fm:Nat:=135
def Eu:Nat:=136
def Et:Nat:=137
def GK:Nat:=138
def CE:Nat:=139
def CN:Nat:=140
def DP:Nat:=145
def E4:Nat:=146
def Ib:Nat:=147
def Lf:Nat:=148
def J9:Nat:=150
def R2:Nat:=151
def J8:Nat:=152
def Hx:Nat:=153
def Ju:Nat:=154
def IP:Nat:=155
def Ma:Nat:=156
def Id:Nat:=157
def Gy:Nat:=158
def Ga:Nat:=159
def Hr:Nat:=160
def IF:Nat:=161
def C8:Nat:=162
def GR:Nat:=167
def Do:Nat:=168
def Gx:Nat:=169
def K5:Nat:=170
def KF:Nat:=171
def Pm:Nat:=172
def Jr:Nat:=173
def Nu:Nat:=174
def LZ:Nat:=175
def Dp:Nat:=178
def Cn:Nat:=179
def CD:Nat:=180
def De:Nat:=181
def CO:Nat:=185
def DO:Nat:=186
def Hu:Nat:=187
def G8:Nat:=188
def K8:Nat:=189
def HA:Nat:=190
def JD:Nat:=191
def IM:Nat:=192
def IL:Nat:=193
def E5:Nat:=200
def Dx:Nat:=201
def Eb:Nat:=202
def L8:Nat:=203
def Cs:Nat:=204
def Cp:Nat:=206
def EV:Nat:=207
def Ht:Nat:=208
def FP:Nat:=209
def D3:Nat:=210
def Gi:Nat:=211
def JC:Nat:=212
def KC:Nat:=213
def Dy:Nat:=217
def Hv:Nat:=218
def Dz:Nat:=219
def KB:Nat:=222
def Gh:Nat:=223
def JB:Nat:=224
def KQ:Cv:=⟨false,1,39,[.tmp 2],(sf [oz 1 (.box 27 35 0),oz 2 (.mv kF)] (.seq (sf [oz 7 (.ld true 35 1),oz 8 (.call Np [7]),mt 9 8,oh 10 9 (.ld true 35 1),oh 11 9 (.call No [10]),oh 12 9 (.un .not 11),oz 13 (.pick 9 kT 12)] (.cond 13 (sf [oz 14 (.call KA []),mt 2 14] .ret) .skip)) (sf [oz 16 (.ld true 35 1),oz 17 (.call GT [16]),mt 15 17,oz 18 (.ext 15 0),oz 19 (.ext 15 1),mt 3 18,mt 4 19] (sf [mt 21 3,oz 22 (.call FI [21]),mt 20 22,oz 23 (.ext 20 0),oz 24 (.ext 20 1),oz 5 (.alloc 27 Az.zc),on (.st 35 5 23),mt 6 24] (sf [mt 25 4,oz 26 (.bin .eql 25 (ki 0)),mt 27 26,og 28 27 (.mv 6),og 29 27 (.bin .eql 28 (ki 0)),oz 30 (.pick 27 29 kF),mt 31 30,og 32 31 (.ld true 35 5),og 33 31 (.ld true 35 1),og 34 31 (.call Mv [32,33]),oz 35 (.pick 31 34 kF),mt 36 35,og 37 36 (.call KA []),oz 38 (.pick 36 37 kF),mt 2 38] .ret)))))⟩
def iM:AC:=(.seq (sf [mt 8 3,oz 9 (.fa 34 1),oz 10 (.ld false 1 9),oz 11 (.len 10),oz 12 (.bin .lss 8 11)] (.cond 12 .skip (.exit 0))) (.seq (.blk 1 (sf [oz 15 (.fa 34 1),oz 16 (.ld false 1 15),mt 17 3,oz 18 (.ias 86 16 17),oz 19 (.fa 85 18),oz 20 (.ld false 1 19),oz 21 (.len 20),oz 22 (.bin .gtr 21 (ki 80))] (.cond 22 (sf [oz 2 (.mv kT)] .ret) .skip))) (rg false [mt 13 3,oz 14 (.bin .add 13 (ki 1)),mt 3 14])))
def T9:Cv:=⟨false,1,23,[.tmp 2],(sf [oz 1 (.box 27 35 0),oz 2 (.mv kF)] (.seq (sf [oz 4 (.fa 34 1),oz 5 (.ld false 1 4),oz 6 (.len 5),oz 7 (.bin .gtr 6 (ki 20))] (.cond 7 (sf [oz 2 (.mv kT)] .ret) .skip)) (.seq (sf [oz 3 (.mv (ki 0))] (.blk 0 (.loop [1,3] iM))) (sf [oz 2 (.mv kF)] .ret))))⟩
def iL:AC:=(.seq (sf [mt 54 6,mt 55 4,oz 56 (.bin .lss 54 55)] (.cond 56 .skip (.exit 2))) (.seq (.blk 3 (sr [oz 59 (.fa 34 1),oz 60 (.ld false 1 59),mt 61 6,oz 62 (.ias 86 60 61),oz 63 (.fa 0 62),oz 64 (.ld true 32 63),oz 65 (.fa 0 5),oz 66 (.ld true 32 65),oz 67 (.eq false (.agg (kk [(32, .i .u8)])) 64 66)] (.cond 67 (sf [oz 2 (.mv kF)] .ret) .skip))) (rg false [mt 57 6,oz 58 (.bin .add 57 (ki 1)),mt 6 58])))
def iK:AC:=(.seq (sf [mt 98 9,mt 99 3,oz 100 (.len 99),oz 101 (.bin .lss 98 100)] (.cond 101 .skip (.exit 6))) (.seq (.blk 7 (sr [mt 104 3,mt 105 9,oz 106 (.ias 18 104 105),oz 107 (.ld true 18 106),oz 108 (.ld true 18 8),oz 109 (.eq false (.agg (kk [(1, .i .i64),(16, .i .u8),(1, .i .i64)])) 107 108)] (.cond 109 (sf [oz 2 (.mv kF)] .ret) .skip))) (rg false [mt 102 9,oz 103 (.bin .add 102 (ki 1)),mt 9 103])))
def iJ:AC:=(.seq (sf [mt 68 7,oz 69 (.fa 85 5),oz 70 (.ld false 1 69),oz 71 (.len 70),oz 72 (.bin .lss 68 71)] (.cond 72 .skip (.exit 4))) (.seq (.blk 5 (sf [oz 75 (.fa 85 5),oz 76 (.ld false 1 75),mt 77 7,oz 78 (.ias 18 76 77),oz 79 (.ld true 18 78),oz 8 (.alloc 51 Al.zc),on (.st 18 8 79)] (.seq (sr [oz 80 (.ld true 18 8),oz 81 (.call Nr [80]),oz 82 (.un .not 81),mt 83 82,oh 84 83 (.mv 7),oh 85 83 (.bin .gtr 84 (ki 0)),oh 86 83 (.mv 85),og 87 86 (.fa 85 5),og 88 86 (.ld false 1 87),og 89 86 (.mv 7),og 90 86 (.bin .sub 89 (ki 1)),og 91 86 (.ias 18 88 90),og 92 86 (.ld true 18 91),og 93 86 (.ld true 18 8),og 94 86 (.call Ph [92,93]),og 95 86 (.un .not 94),oh 96 83 (.pick 86 95 kF),oz 97 (.pick 83 kT 96)] (.cond 97 (sf [oz 2 (.mv kF)] .ret) .skip)) (.seq (sf [oz 9 (.mv (ki 0))] (.blk 6 (.loop [1,3,4,5,7,8,9] iK))) (rg false [mt 110 3,oz 111 (.ld true 18 8),oz 112 (.bll 18 (az 1 Al.zc) [(0,111)]),oz 113 (.app 51 18 32 110 112),mt 3 113]))))) (rg false [mt 73 7,oz 74 (.bin .add 73 (ki 1)),mt 7 74])))
def iI:AC:=(.seq (sf [mt 20 4,oz 21 (.fa 34 1),oz 22 (.ld false 1 21),oz 23 (.len 22),oz 24 (.bin .lss 20 23)] (.cond 24 .skip (.exit 0))) (.seq (.blk 1 (sf [oz 27 (.fa 34 1),oz 28 (.ld false 1 27),mt 29 4,oz 30 (.ias 86 28 29),oz 31 (.ld true 86 30),oz 5 (.alloc 47 A5.zc),on (.st 86 5 31)] (.seq (sf [oz 32 (.fa 0 5),oz 33 (.ld true 32 32),oz 34 (.bld (aw 32 bi).zc []),oz 35 (.eq false (.agg (kk [(32, .i .u8)])) 33 34),mt 36 35,oh 37 36 (.fa 82 5),oh 38 36 (.ld false 1 37),oh 39 36 (.call Mu [38]),oh 40 36 (.un .not 39),oz 41 (.pick 36 kT 40),mt 42 41,oh 43 42 (.fa 64 5),oh 44 42 (.ld true 18 43),oh 45 42 (.bld Aw.zc []),oh 46 42 (.eq true (.agg (kk [(1, .i .i64),(16, .i .u8),(1, .i .i64)])) 44 45),oh 47 42 (.mv 46),og 48 47 (.fa 64 5),og 49 47 (.ld true 18 48),og 50 47 (.call Nq [49]),og 51 47 (.un .not 50),oh 52 42 (.pick 47 51 kF),oz 53 (.pick 42 kT 52)] (.cond 53 (sf [oz 2 (.mv kF)] .ret) .skip)) (.seq (sf [oz 6 (.mv (ki 0))] (.blk 2 (.loop [1,3,4,5,6] iL))) (sf [oz 7 (.mv (ki 0))] (.blk 4 (.loop [1,3,4,5,7] iJ))))))) (rg false [mt 25 4,oz 26 (.bin .add 25 (ki 1)),mt 4 26])))
def T8:Cv:=⟨false,1,117,[.tmp 2],(sf [oz 1 (.box 27 35 0),oz 2 (.mv kF)] (.seq (sf [oz 10 (.fa 32 1),oz 11 (.ld false 1 10),oz 12 (.call Mu [11]),oz 13 (.un .not 12),mt 14 13,oh 15 14 (.fa 34 1),oh 16 14 (.ld false 1 15),oh 17 14 (.len 16),oh 18 14 (.bin .gtr 17 (ki 16)),oz 19 (.pick 14 kT 18)] (.cond 19 (sf [oz 2 (.mv kF)] .ret) .skip)) (sf [oz 3 (.mv (.k (.nils)))] (.seq (sf [oz 4 (.mv (ki 0))] (.blk 0 (.loop [1,3,4] iI))) (sf [mt 114 3,oz 115 (.len 114),oz 116 (.bin .leq 115 (ki 64)),mt 2 116] .ret)))))⟩
def TH:Cv:=⟨false,0,41,[.tmp 0],(sf [oz 0 (.mv kF)] (sf [oz 8 (.bld (aw 32 bi).zc [(0,1,(.k (.i .u8 1)))]),oz 9 (.bld A5.zc [(0,32,8),(84,1,(.k (.i .u64 3)))]),oz 10 (.bls 47 86 (az 1 A5.zc) [(0,9)]),oz 11 (.bld Az.zc [(32,1,(ki 9)),(34,1,10)]),oz 1 (.alloc 27 Az.zc),on (.st 35 1 11)] (sf [oz 13 (.ld true 35 1),oz 14 (.call GT [13]),mt 12 14,oz 15 (.ext 12 0),oz 16 (.ext 12 1),mt 2 15,mt 3 16] (sf [mt 18 2,oz 19 (.call FI [18]),mt 17 19,oz 20 (.ext 17 0),oz 21 (.ext 17 1),oz 4 (.alloc 27 Az.zc),on (.st 35 4 20),mt 5 21] (sf [oz 23 (.call FI [(.k (.s []))]),mt 22 23,oz 24 (.ext 22 0),oz 25 (.ext 22 1),oz 6 (.alloc 27 Az.zc),on (.st 35 6 24),mt 7 25] (sf [mt 26 3,oz 27 (.bin .eql 26 (ki 0)),mt 28 27,og 29 28 (.mv 5),og 30 28 (.bin .eql 29 (ki 0)),oz 31 (.pick 28 30 kF),mt 32 31,og 33 32 (.ld true 35 4),og 34 32 (.ld true 35 1),og 35 32 (.call Mv [33,34]),oz 36 (.pick 32 35 kF),mt 37 36,og 38 37 (.mv 7),og 39 37 (.bin .eql 38 (ki 5)),oz 40 (.pick 37 39 kF),mt 0 40] .ret))))))⟩
def YY:AC:=(sf [oz 26 (.bin .lss 25 24)] (.seq (.cond 26 .skip (.exit 0)) (.seq (.blk 1 (sf [oz 27 (.ias 86 23 25),oz 28 (.ld true 86 27),oz 6 (.alloc 47 A5.zc),on (.st 86 6 28)] (rg false [mt 29 4,oz 30 (.ld true 86 6),oz 31 (.call KD [30]),oz 32 (.app 55 70 112 29 31),mt 4 32]))) (rg false [oz 33 (.bin .add 25 (ki 1)),mt 25 33]))))
def PZ:Cv:=⟨false,1,42,[.tmp 2, .tmp 3],(sf [oz 1 (.box 27 35 0),oz 2 (.mv (.k (.s []))),oz 3 (.mv (ki 0))] (.seq (sf [oz 7 (.ld true 35 1),oz 8 (.call LV [7]),oz 9 (.un .not 8)] (.cond 9 (sf [oz 2 (.mv (.k (.s []))),oz 3 (.mv (ki 1))] .ret) .skip)) (sf [oz 10 (.fa 0 1),oz 11 (.ld true 32 10),oz 12 (.bld Ae.zc [(0,1,(ki 1)),(1,32,11)]),oz 13 (.fa 32 1),oz 14 (.ld false 1 13),oz 15 (.cvi .u64 14),oz 16 (.bld Ae.zc [(0,1,(ki 2)),(33,1,15)]),oz 17 (.fa 33 1),oz 18 (.ld false 1 17),oz 19 (.cvi .u64 18),oz 20 (.bld Ae.zc [(0,1,(ki 3)),(33,1,19)]),oz 21 (.bls 55 70 (az 3 Ae.zc) [(0,12),(1,16),(2,20)]),mt 4 21] (.seq (sf [oz 22 (.fa 34 1),oz 23 (.ld false 1 22),oz 24 (.len 23),oz 25 (.mv (ki 0))] (.blk 0 (.loop [4,23,24,25] YY))) (sf [mt 34 4,oz 35 (.bld Ae.zc [(0,1,(ki 16))]),oz 36 (.bll 70 (az 1 Ae.zc) [(0,35)]),oz 37 (.app 55 70 112 34 36),oz 38 (.call JA [37]),oz 39 (.call Ia [38]),oz 40 (.ext 39 0),oz 41 (.ext 39 1),mt 2 40,mt 3 41] .ret)))))⟩
def MO:Cv:=⟨false,1,43,[.cell true 35 2, .tmp 3],(sf [oz 2 (.alloc 27 Az.zc),oz 3 (.mv (ki 0))] (sf [mt 11 0,oz 12 (.call II [11]),mt 10 12,oz 13 (.ext 10 0),oz 14 (.ext 10 1),mt 4 13,mt 5 14] (.seq (sf [mt 15 5,oz 16 (.bin .neq 15 (ki 0))] (.cond 16 (sf [oz 17 (.bld Az.zc []),on (.st 35 2 17),oz 3 (.mv (ki 5))] .ret) .skip)) (sf [mt 18 4,oz 19 (.bld LN.zc [(0,1,18)]),oz 20 (.box 65 3 19),mt 6 20] (sf [mt 21 6,oz 22 (.call EL [21]),oz 7 (.alloc 27 Az.zc),on (.st 35 7 22)] (.seq (sf [oz 24 (.ld true 35 7),oz 25 (.call GT [24]),mt 23 25,oz 26 (.ext 23 0),oz 27 (.ext 23 1),mt 8 26,mt 9 27] (sf [mt 28 6,oz 29 (.nilc 28),oz 30 (.fa 2 29),oz 31 (.ld false 1 30),mt 32 31,oh 33 32 (.mv 9),oh 34 32 (.bin .neq 33 (ki 0)),oz 35 (.pick 32 kT 34),mt 36 35,oh 37 36 (.mv 8),oh 38 36 (.mv 0),oh 39 36 (.bin .neq 37 38),oz 40 (.pick 36 kT 39)] (.cond 40 (sf [oz 41 (.bld Az.zc []),on (.st 35 2 41),oz 3 (.mv (ki 5))] .ret) .skip))) (sf [oz 42 (.ld true 35 7),on (.st 35 2 42),oz 3 (.mv (ki 0))] .ret)))))))⟩
def lM:AC:=(.seq (sf [mt 34 5,oz 35 (.fa 34 2),oz 36 (.ld false 1 35),oz 37 (.len 36),oz 38 (.bin .lss 34 37)] (.cond 38 .skip (.exit 0))) (.seq (.blk 1 (sr [oz 41 (.fa 34 2),oz 42 (.ld false 1 41),mt 43 5,oz 44 (.ias 86 42 43),oz 45 (.ld true 86 44),oz 46 (.fa 34 3),oz 47 (.ld false 1 46),mt 48 5,oz 49 (.ias 86 47 48),oz 50 (.ld true 86 49),oz 51 (.call J7 [45,50]),oz 52 (.un .not 51)] (.cond 52 (sf [oz 4 (.mv kF)] .ret) .skip))) (rg false [mt 39 5,oz 40 (.bin .add 39 (ki 1)),mt 5 40])))
def VW:Cv:=⟨false,2,53,[.tmp 4],(sf [oz 2 (.box 27 35 0),oz 3 (.box 27 35 1),oz 4 (.mv kF)] (.seq (sf [oz 6 (.fa 0 2),oz 7 (.ld true 32 6),oz 8 (.fa 0 3),oz 9 (.ld true 32 8),oz 10 (.eq true (.agg (kk [(32, .i .u8)])) 7 9),mt 11 10,oh 12 11 (.fa 32 2),oh 13 11 (.ld false 1 12),oh 14 11 (.fa 32 3),oh 15 11 (.ld false 1 14),oh 16 11 (.bin .neq 13 15),oz 17 (.pick 11 kT 16),mt 18 17,oh 19 18 (.fa 33 2),oh 20 18 (.ld false 1 19),oh 21 18 (.fa 33 3),oh 22 18 (.ld false 1 21),oh 23 18 (.bin .neq 20 22),oz 24 (.pick 18 kT 23),mt 25 24,oh 26 25 (.fa 34 2),oh 27 25 (.ld false 1 26),oh 28 25 (.len 27),oh 29 25 (.fa 34 3),oh 30 25 (.ld false 1 29),oh 31 25 (.len 30),oh 32 25 (.bin .neq 28 31),oz 33 (.pick 25 kT 32)] (.cond 33 (sf [oz 4 (.mv kF)] .ret) .skip)) (.seq (sf [oz 5 (.mv (ki 0))] (.blk 0 (.loop [2,3,5] lM))) (sf [oz 4 (.mv kT)] .ret))))⟩
def VV:Cv:=⟨false,1,9,[.tmp 2],(sf [oz 2 (.mv kF)] (sf [mt 3 0,oz 4 (.bin .geq 3 (ki 0)),mt 5 4,og 6 5 (.mv 0),og 7 5 (.bin .leq 6 (ki 65535)),oz 8 (.pick 5 7 kF),mt 2 8] .ret))⟩
def TA:Cv:=⟨false,1,16,[.tmp 2],(sf [oz 1 (.box 43 18 0),oz 2 (.mv kF)] (sf [oz 3 (.fa 0 1),oz 4 (.ld true 17 3),oz 5 (.call Hs [4]),mt 6 5,og 7 6 (.fa 17 1),og 8 6 (.ld false 1 7),og 9 6 (.bin .geq 8 (ki 1)),oz 10 (.pick 6 9 kF),mt 11 10,og 12 11 (.fa 17 1),og 13 11 (.ld false 1 12),og 14 11 (.bin .leq 13 (ki 65535)),oz 15 (.pick 11 14 kF),mt 2 15] .ret))⟩
def TB:Cv:=⟨false,1,28,[.tmp 2],(sf [oz 1 (.box 51 18 0),oz 2 (.mv kF)] (.seq (sr [oz 3 (.fa 0 1),oz 4 (.ld true 17 3),oz 5 (.call Hs [4]),oz 6 (.un .not 5),mt 7 6,oh 8 7 (.fa 17 1),oh 9 7 (.ld false 1 8),oh 10 7 (.bin .lss 9 (ki 0)),oz 11 (.pick 7 kT 10),mt 12 11,oh 13 12 (.fa 17 1),oh 14 12 (.ld false 1 13),oh 15 12 (.fa 0 1),oh 16 12 (.ld true 17 15),oh 17 12 (.call K6 [16]),oh 18 12 (.bin .gtr 14 17),oz 19 (.pick 12 kT 18)] (.cond 19 (sf [oz 2 (.mv kF)] .ret) .skip)) (sr [oz 20 (.fa 0 1),oz 21 (.ld true 17 20),oz 22 (.fa 0 1),oz 23 (.ld true 17 22),oz 24 (.fa 17 1),oz 25 (.ld false 1 24),oz 26 (.call Pi [23,25]),oz 27 (.eq false (.agg (kk [(1, .i .i64),(16, .i .u8)])) 21 26),mt 2 27] .ret)))⟩
def VY:Cv:=⟨false,2,20,[.tmp 4],(sf [oz 2 (.box 51 18 0),oz 3 (.box 51 18 1),oz 4 (.mv kF)] (.seq (sf [oz 5 (.fa 0 2),oz 6 (.ld true 17 5),oz 7 (.fa 0 3),oz 8 (.ld true 17 7),oz 9 (.eq true (.agg (kk [(1, .i .i64),(16, .i .u8)])) 6 8)] (.cond 9 (sf [oz 10 (.fa 0 2),oz 11 (.ld true 17 10),oz 12 (.fa 0 3),oz 13 (.ld true 17 12),oz 14 (.call Pj [11,13]),mt 4 14] .ret) .skip)) (sf [oz 15 (.fa 17 2),oz 16 (.ld false 1 15),oz 17 (.fa 17 3),oz 18 (.ld false 1 17),oz 19 (.bin .lss 16 18),mt 4 19] .ret)))⟩
def bQ:AC:=(sf [oz 63 (.bin .lss 62 61)] (.seq (.cond 63 .skip (.exit 2)) (.seq (.blk 3 (sf [oz 64 (.ias 18 60 62),oz 65 (.ld true 18 64),oz 8 (.alloc 51 Al.zc),on (.st 18 8 65)] (.seq (sf [mt 66 4,oz 67 (.ld true 18 8),oz 68 (.lkp (.agg (kk [(1, .i .i64),(16, .i .u8),(1, .i .i64)])) (.b false) false 66 67)] (.cond 68 (sf [oz 2 (.mv kF)] .ret) .skip)) (rg false [mt 69 4,oz 70 (.ld true 18 8),on (.mup (.agg (kk [(1, .i .i64),(16, .i .u8),(1, .i .i64)])) 69 70 kT)])))) (rg false [oz 71 (.bin .add 62 (ki 1)),mt 62 71]))))
def bP:AC:=(sf [oz 27 (.bin .lss 26 25)] (.seq (.cond 27 .skip (.exit 0)) (.seq (.blk 1 (sf [oz 28 (.ias 86 24 26),oz 29 (.ld true 86 28),oz 6 (.alloc 47 A5.zc),on (.st 86 6 29)] (.seq (sf [mt 30 3,oz 31 (.fa 0 6),oz 32 (.ld true 32 31),oz 33 (.lkp (.agg (kk [(32, .i .u8)])) (.b false) false 30 32),mt 34 33,oh 35 34 (.fa 82 6),oh 36 34 (.ld false 1 35),oh 37 34 (.call Jq [36]),oh 38 34 (.un .not 37),oz 39 (.pick 34 kT 38),mt 40 39,oh 41 40 (.fa 85 6),oh 42 40 (.ld false 1 41),oh 43 40 (.call K4 [42]),oh 44 40 (.un .not 43),oz 45 (.pick 40 kT 44)] (.cond 45 (sf [oz 2 (.mv kF)] .ret) .skip)) (.seq (sf [oz 46 (.fa 64 6),oz 47 (.ld true 18 46),oz 48 (.call GQ [47]),oz 49 (.un .not 48),mt 50 49,og 51 50 (.fa 64 6),og 52 50 (.ld true 18 51),og 53 50 (.call Ff [52]),og 54 50 (.un .not 53),oz 55 (.pick 50 54 kF)] (.cond 55 (sf [oz 2 (.mv kF)] .ret) .skip)) (sf [mt 56 3,oz 57 (.fa 0 6),oz 58 (.ld true 32 57),on (.mup (.agg (kk [(32, .i .u8)])) 56 58 kT)] (sf [oz 59 (.fa 85 6),oz 60 (.ld false 1 59),oz 61 (.len 60),oz 62 (.mv (ki 0))] (.blk 2 (.loop [3,4,24,25,26,60,61,62] bQ)))))))) (rg false [oz 72 (.bin .add 26 (ki 1)),mt 26 72]))))
def RG:Cv:=⟨false,1,76,[.tmp 2],(sf [oz 1 (.box 27 35 0),oz 2 (.mv kF)] (.seq (sf [oz 9 (.fa 32 1),oz 10 (.ld false 1 9),oz 11 (.call Jq [10]),oz 12 (.un .not 11),mt 13 12,oh 14 13 (.fa 34 1),oh 15 13 (.ld false 1 14),oh 16 13 (.len 15),oh 17 13 (.bin .gtr 16 (ki 16)),oz 18 (.pick 13 kT 17)] (.cond 18 (sf [oz 2 (.mv kF)] .ret) .skip)) (sf [oz 19 (.mkm),oz 20 (.bld (aw 32 bi).zc []),on (.mup (.agg (kk [(32, .i .u8)])) 19 20 kT),mt 21 19,oz 22 (.mkm),mt 3 21,mt 4 22] (.seq (sf [oz 23 (.fa 34 1),oz 24 (.ld false 1 23),oz 25 (.len 24),oz 26 (.mv (ki 0))] (.blk 0 (.loop [3,4,24,25,26] bP))) (sf [mt 73 4,oz 74 (.lenm 73),oz 75 (.bin .leq 74 (ki 64)),mt 2 75] .ret)))))⟩
def YX:AC:=(sf [oz 41 (.bin .lss 40 39)] (.seq (.cond 41 .skip (.exit 0)) (.seq (.blk 1 (sf [oz 42 (.ias 18 38 40),oz 43 (.ld true 18 42),oz 5 (.alloc 51 Al.zc),on (.st 18 5 43)] (rg false [mt 44 3,oz 45 (.ld true 18 5),oz 46 (.bld Ae.zc [(0,1,(ki 12)),(52,18,45)]),oz 47 (.bll 70 (az 1 Ae.zc) [(0,46)]),oz 48 (.app 55 70 112 44 47),mt 3 48]))) (rg false [oz 49 (.bin .add 40 (ki 1)),mt 40 49]))))
def PY:Cv:=⟨false,1,51,[.tmp 2],(sf [oz 1 (.box 47 86 0),oz 2 (.mv (.k (.nils)))] (sf [oz 6 (.fa 0 1),oz 7 (.ld true 32 6),oz 8 (.bld Ae.zc [(0,1,(ki 5)),(1,32,7)]),oz 9 (.fa 32 1),oz 10 (.ld true 32 9),oz 11 (.bld Ae.zc [(0,1,(ki 8)),(1,32,10)]),oz 12 (.bld Ae.zc [(0,1,(ki 13)),(33,1,(.k (.i .u64 1)))]),oz 13 (.bls 55 70 (az 3 Ae.zc) [(0,8),(1,11),(2,12)]),mt 3 13] (.seq (sf [oz 14 (.fa 64 1),oz 15 (.ld true 18 14),oz 16 (.call GQ [15]),oz 17 (.un .not 16)] (.cond 17 (rg false [mt 18 3,oz 19 (.fa 64 1),oz 20 (.ld true 18 19),oz 21 (.bld Ae.zc [(0,1,(ki 9)),(34,18,20)]),oz 22 (.bll 70 (az 1 Ae.zc) [(0,21)]),oz 23 (.app 55 70 112 18 22),mt 3 23]) .skip)) (sf [mt 24 3,oz 25 (.fa 83 1),oz 26 (.ld false 1 25),oz 27 (.bld Ae.zc [(0,1,(ki 14)),(33,1,26)]),oz 28 (.fa 84 1),oz 29 (.ld false 1 28),oz 30 (.bld Ae.zc [(0,1,(ki 15)),(33,1,29)]),oz 31 (.fa 82 1),oz 32 (.ld false 1 31),oz 33 (.cvi .u64 32),oz 34 (.bld Ae.zc [(0,1,(ki 10)),(33,1,33)]),oz 35 (.bll 70 (az 3 Ae.zc) [(0,27),(1,30),(2,34)]),oz 36 (.app 55 70 112 24 35),mt 3 36] (.seq (sf [oz 37 (.fa 85 1),oz 38 (.ld false 1 37),oz 39 (.len 38),oz 40 (.mv (ki 0))] (.blk 0 (.loop [3,38,39,40] YX))) (sf [mt 50 3,mt 2 50] .ret))))))⟩
def UN:AC:=(sf [oz 15 (.bin .lss 14 13)] (.seq (.cond 15 .skip (.exit 0)) (.seq (.blk 1 (sf [oz 16 (.ias 2 12 14),oz 17 (.ld true 2 16),oz 6 (.alloc 85 Ak.zc),on (.st 2 6 17)] (sf [oz 19 (.ld true 2 6),oz 20 (.call IG [19]),mt 18 20,oz 21 (.ext 18 0),oz 22 (.ext 18 1),mt 7 21,mt 8 22] (.seq (sf [mt 23 8,oz 24 (.bin .neq 23 (ki 0))] (.cond 24 (sf [mt 25 8,oz 2 (.mv (.k (.s []))),mt 3 25] .ret) .skip)) (rg false [mt 26 4,mt 27 7,oz 28 (.bll 1 (az 1 Au.zc) [(0,27)]),oz 29 (.app 9 1 16 26 28),mt 4 29]))))) (rg false [oz 30 (.bin .add 14 (ki 1)),mt 14 30]))))
def LE:Cv:=⟨false,1,35,[.tmp 2, .tmp 3],(sf [oz 2 (.mv (.k (.s []))),oz 3 (.mv (ki 0))] (.seq (sf [mt 9 0,oz 10 (.len 9),oz 11 (.bin .gtr 10 (ki 400))] (.cond 11 (sf [oz 2 (.mv (.k (.s []))),oz 3 (.mv (ki 4))] .ret) .skip)) (sf [oz 4 (.mv (.k (.nils)))] (.seq (sf [mt 12 0,oz 13 (.len 12),oz 14 (.mv (ki 0))] (.blk 0 (.loop [4,12,13,14] UN))) (sf [mt 31 4,oz 32 (.bll 1 (az 1 Au.zc) [(0,(.k (.s [])))]),oz 33 (.app 9 1 16 31 32),oz 34 (.call LW [33]),mt 2 34,oz 3 (.mv (ki 0))] .ret)))))⟩
def X8:AC:=(sf [oz 11 (.bin .lss 10 9)] (.seq (.cond 11 .skip (.exit 0)) (.seq (.blk 1 (sf [oz 12 (.ias 70 8 10),oz 13 (.ld true 70 12),oz 5 (.alloc 55 Ae.zc),on (.st 70 5 13)] (sf [oz 15 (.ld true 70 5),oz 16 (.call LY [15]),mt 14 16,oz 17 (.ext 14 0),oz 18 (.ext 14 1),oz 6 (.alloc 85 Ak.zc),on (.st 2 6 17),mt 7 18] (rg false [mt 19 3,oz 20 (.ld true 2 6),oz 21 (.bll 2 (az 1 Ak.zc) [(0,20)]),oz 22 (.app 85 2 32 19 21),mt 3 22])))) (rg false [oz 23 (.bin .add 10 (ki 1)),mt 10 23]))))
def Ow:Cv:=⟨false,1,25,[.tmp 2],(sf [oz 2 (.mv (.k (.nils)))] (sf [oz 3 (.mv (.k (.nils)))] (.seq (sf [mt 8 0,oz 9 (.len 8),oz 10 (.mv (ki 0))] (.blk 0 (.loop [3,8,9,10] X8))) (sf [mt 24 3,mt 2 24] .ret))))⟩
def Wb:AC:=(sf [oz 42 (.bin .lss 41 40)] (.seq (.cond 42 .skip (.exit 0)) (.seq (.blk 1 (sf [oz 43 (.ias 1 39 41),oz 44 (.ld false 1 43),mt 8 44] (sf [mt 46 8,oz 47 (.call HZ [46]),mt 45 47,oz 48 (.ext 45 0),oz 49 (.ext 45 1),oz 9 (.alloc 85 Ak.zc),on (.st 2 9 48),mt 10 49] (.seq (sf [mt 50 10,oz 51 (.bin .neq 50 (ki 0))] (.cond 51 (sf [mt 52 10,oz 2 (.mv (.k (.nils))),mt 3 52] .ret) .skip)) (rg false [mt 53 6,oz 54 (.ld true 2 9),oz 55 (.bll 2 (az 1 Ak.zc) [(0,54)]),oz 56 (.app 85 2 32 53 55),mt 6 56]))))) (rg false [oz 57 (.bin .add 41 (ki 1)),mt 41 57]))))
def MK:Cv:=⟨false,1,59,[.tmp 2, .tmp 3],(sf [oz 2 (.mv (.k (.nils))),oz 3 (.mv (ki 0))] (sf [mt 12 0,oz 13 (.call K7 [12]),mt 11 13,oz 14 (.ext 11 0),oz 15 (.ext 11 1),mt 4 14,mt 5 15] (.seq (sf [mt 16 5,oz 17 (.un .not 16),mt 18 17,oh 19 18 (.mv 4),oh 20 18 (.len 19),oh 21 18 (.bin .eql 20 (ki 0)),oz 22 (.pick 18 kT 21),mt 23 22,oh 24 23 (.mv 4),oh 25 23 (.call Ea [24,(.k (.s []))]),oh 26 23 (.mv 4),oh 27 23 (.len 26),oh 28 23 (.bin .sub 27 (ki 1)),oh 29 23 (.bin .neq 25 28),oz 30 (.pick 23 kT 29)] (.cond 30 (sf [oz 2 (.mv (.k (.nils))),oz 3 (.mv (ki 5))] .ret) .skip)) (sf [mt 31 4,mt 32 4,oz 33 (.len 32),oz 34 (.bin .sub 33 (ki 1)),oz 35 (.sll 1 31 none (some 34)),mt 4 35] (.seq (sf [mt 36 4,oz 37 (.len 36),oz 38 (.bin .gtr 37 (ki 400))] (.cond 38 (sf [oz 2 (.mv (.k (.nils))),oz 3 (.mv (ki 4))] .ret) .skip)) (sf [oz 6 (.mv (.k (.nils)))] (.seq (sf [mt 39 4,oz 40 (.len 39),oz 41 (.mv (ki 0))] (.blk 0 (.loop [6,39,40,41] Wb))) (sf [mt 58 6,mt 2 58,oz 3 (.mv (ki 0))] .ret))))))))⟩
def Oq:AC:=(.seq (sf [mt 18 0,oz 19 (.nilc 18),oz 20 (.fa 2 19),oz 21 (.ld false 1 20),oz 22 (.un .not 21)] (.cond 22 .skip (.exit 0))) (.blk 1 (sf [mt 24 0,oz 25 (.call Cy [24,(ki 5)]),mt 23 25,oz 26 (.ext 23 0),oz 27 (.ext 23 1),oz 4 (.alloc 55 Ae.zc),on (.st 70 4 26),mt 5 27] (.seq (sf [mt 28 5,oz 29 (.un .not 28)] (.cond 29 (.exit 0) .skip)) (.regd [oz 30 (.fa 34 3),oz 31 (.ld false 1 30),mt 32 0,oz 33 (.fa 1 4),oz 34 (.ld true 32 33),oz 35 (.call EJ [32,34]),oz 36 (.bll 86 (az 1 A5.zc) [(0,35)]),oz 37 (.app 47 86 144 31 36),oz 38 (.fa 34 3),on (.st 1 38 37)] [some (0,1),some (0,1),some (0,0),some (0,0),some (0,0),none,some (1,1),none,some (2,2),none])))))
def Ha:Cv:=⟨false,1,42,[.cell true 35 2],(sf [oz 2 (.alloc 27 Az.zc)] (sf [mt 6 0,oz 7 (.call BI [6,(ki 1)]),oz 8 (.fld true 1 32 7),mt 9 0,oz 10 (.call BI [9,(ki 2)]),oz 11 (.fld false 33 1 10),oz 12 (.cvi .i64 11),mt 13 0,oz 14 (.call BI [13,(ki 3)]),oz 15 (.fld false 33 1 14),oz 16 (.cvi .u32 15),oz 17 (.bld Az.zc [(0,32,8),(32,1,12),(33,1,16)]),oz 3 (.alloc 27 Az.zc),on (.st 35 3 17)] (.seq (.blk 0 (.loop [0,2,3] Oq)) (sf [mt 39 0,oz 40 (.call BI [39,(ki 16)])] (sf [oz 41 (.ld true 35 3),on (.st 35 2 41)] .ret)))))⟩
def Om:Cv:=⟨false,2,52,[.tmp 4],(sf [oz 2 (.box 47 86 0),oz 3 (.box 47 86 1),oz 4 (.mv kF)] (sf [oz 5 (.fa 0 2),oz 6 (.ld true 32 5),oz 7 (.fa 0 3),oz 8 (.ld true 32 7),oz 9 (.eq false (.agg (kk [(32, .i .u8)])) 6 8),mt 10 9,og 11 10 (.fa 32 2),og 12 10 (.ld true 32 11),og 13 10 (.fa 32 3),og 14 10 (.ld true 32 13),og 15 10 (.eq false (.agg (kk [(32, .i .u8)])) 12 14),oz 16 (.pick 10 15 kF),mt 17 16,og 18 17 (.fa 64 2),og 19 17 (.ld true 18 18),og 20 17 (.fa 64 3),og 21 17 (.ld true 18 20),og 22 17 (.eq false (.agg (kk [(1, .i .i64),(16, .i .u8),(1, .i .i64)])) 19 21),oz 23 (.pick 17 22 kF),mt 24 23,og 25 24 (.fa 82 2),og 26 24 (.ld false 1 25),og 27 24 (.fa 82 3),og 28 24 (.ld false 1 27),og 29 24 (.bin .eql 26 28),oz 30 (.pick 24 29 kF),mt 31 30,og 32 31 (.fa 83 2),og 33 31 (.ld false 1 32),og 34 31 (.fa 83 3),og 35 31 (.ld false 1 34),og 36 31 (.bin .eql 33 35),oz 37 (.pick 31 36 kF),mt 38 37,og 39 38 (.fa 84 2),og 40 38 (.ld false 1 39),og 41 38 (.fa 84 3),og 42 38 (.ld false 1 41),og 43 38 (.bin .eql 40 42),oz 44 (.pick 38 43 kF),mt 45 44,og 46 45 (.fa 85 2),og 47 45 (.ld false 1 46),og 48 45 (.fa 85 3),og 49 45 (.ld false 1 48),og 50 45 (.call Pg [47,49]),oz 51 (.pick 45 50 kF),mt 4 51] .ret))⟩
def lL:AC:=(.seq (sf [mt 37 6,mt 38 4,oz 39 (.len 38),oz 40 (.bin .lss 37 39)] (.cond 40 .skip (.exit 0))) (.seq (.blk 1 (sf [mt 43 4,mt 44 6,oz 45 (.ias 1 43 44),oz 46 (.ld false 1 45),oz 47 (.bin .eql 46 (.k (.s [])))] (.cond 47 (sf [oz 2 (.mv (.k (.nils))),oz 3 (.mv (ki 5))] .ret) .skip))) (rg false [mt 41 6,oz 42 (.bin .add 41 (ki 1)),mt 6 42])))
def lK:AC:=(.seq (sf [mt 51 8,mt 52 4,oz 53 (.len 52),oz 54 (.bin .lss 51 53)] (.cond 54 .skip (.exit 2))) (.seq (.blk 3 (sf [mt 58 4,mt 59 8,oz 60 (.ias 1 58 59),oz 61 (.ld false 1 60),oz 62 (.call Xf [61]),mt 57 62,oz 63 (.ext 57 0),oz 64 (.ext 57 1),oz 9 (.alloc 74 LM.zc),on (.st 2 9 63),mt 10 64] (.seq (sf [mt 65 10,oz 66 (.bin .neq 65 (ki 0))] (.cond 66 (sf [mt 67 10,oz 2 (.mv (.k (.nils))),mt 3 67] .ret) .skip)) (rg false [mt 68 7,oz 69 (.ld true 2 9),oz 70 (.bll 2 (az 1 LM.zc) [(0,69)]),oz 71 (.app 74 2 32 68 70),mt 7 71])))) (rg false [mt 55 8,oz 56 (.bin .add 55 (ki 1)),mt 8 56])))
def AaU:Cv:=⟨false,1,73,[.tmp 2, .tmp 3],(sf [oz 2 (.mv (.k (.nils))),oz 3 (.mv (ki 0))] (sf [mt 11 0,oz 12 (.call Nt [11,(.k (.i .u8 10))]),mt 4 12] (sf [mt 13 4,oz 14 (.len 13),mt 5 14] (.seq (sf [mt 15 5,oz 16 (.bin .lss 15 (ki 2)),mt 17 16,oh 18 17 (.mv 4),oh 19 17 (.mv 5),oh 20 17 (.bin .sub 19 (ki 1)),oh 21 17 (.ias 1 18 20),oh 22 17 (.ld false 1 21),oh 23 17 (.bin .neq 22 (.k (.s []))),oz 24 (.pick 17 kT 23),mt 25 24,oh 26 25 (.mv 4),oh 27 25 (.mv 5),oh 28 25 (.bin .sub 27 (ki 2)),oh 29 25 (.ias 1 26 28),oh 30 25 (.ld false 1 29),oh 31 25 (.bin .neq 30 (.k (.s []))),oz 32 (.pick 25 kT 31)] (.cond 32 (sf [oz 2 (.mv (.k (.nils))),oz 3 (.mv (ki 5))] .ret) .skip)) (sf [mt 33 4,mt 34 5,oz 35 (.bin .sub 34 (ki 2)),oz 36 (.sll 1 33 none (some 35)),mt 4 36] (.seq (sf [oz 6 (.mv (ki 0))] (.blk 0 (.loop [4,6] lL))) (.seq (sf [mt 48 4,oz 49 (.len 48),oz 50 (.bin .gtr 49 (ki 400))] (.cond 50 (sf [oz 2 (.mv (.k (.nils))),oz 3 (.mv (ki 4))] .ret) .skip)) (sf [oz 7 (.mv (.k (.nils)))] (.seq (sf [oz 8 (.mv (ki 0))] (.blk 2 (.loop [4,7,8] lK))) (sf [mt 72 7,mt 2 72,oz 3 (.mv (ki 0))] .ret))))))))))⟩
def iO:AC:=(.seq (sf [mt 7 3,oz 8 (.bin .lss 7 (ki 16))] (.cond 8 .skip (.exit 0))) (.seq (.blk 1 (sf [mt 11 3,oz 12 (.fa 1 1),oz 13 (.iaa 16 1 12 11),oz 14 (.ld false 1 13),oz 15 (.bin .neq 14 (.k (.i .u8 0)))] (.cond 15 (sf [oz 2 (.mv kF)] .ret) .skip))) (rg false [mt 9 3,oz 10 (.bin .add 9 (ki 1)),mt 3 10])))
def TE:Cv:=⟨false,1,19,[.tmp 2],(sf [oz 1 (.box 41 17 0),oz 2 (.mv kF)] (.seq (sf [oz 4 (.fa 0 1),oz 5 (.ld false 1 4),oz 6 (.bin .eql 5 (ki 6))] (.cond 6 (sf [oz 2 (.mv kT)] .ret) .skip)) (.seq (sf [oz 3 (.mv (ki 4))] (.blk 0 (.loop [1,3] iO))) (sf [oz 16 (.fa 0 1),oz 17 (.ld false 1 16),oz 18 (.bin .eql 17 (ki 4)),mt 2 18] .ret))))⟩
def TD:Cv:=⟨false,1,9,[.tmp 2],(sf [oz 1 (.box 41 17 0),oz 2 (.mv (ki 0))] (.seq (sf [oz 3 (.ld true 17 1),oz 4 (.call Hs [3]),oz 5 (.un .not 4)] (.cond 5 (sf [oz 2 (.mv (ki 0))] .ret) .skip)) (.seq (sf [oz 6 (.fa 0 1),oz 7 (.ld false 1 6),oz 8 (.bin .eql 7 (ki 4))] (.cond 8 (sf [oz 2 (.mv (ki 32))] .ret) .skip)) (sf [oz 2 (.mv (ki 128))] .ret))))⟩
def lP:AC:=(.seq (sf [mt 33 9,mt 34 7,oz 35 (.bin .rem 34 (ki 8)),oz 36 (.bin .lss 33 35)] (.cond 36 .skip (.exit 2))) (.seq (.blk 3 (rg false [mt 39 8,oz 40 (.bin .quo 39 (ki 2)),mt 8 40])) (rg false [mt 37 9,oz 38 (.bin .add 37 (ki 1)),mt 9 38])))
def lO:AC:=(.seq (sf [mt 19 7,mt 20 6,oz 21 (.bin .lss 19 20),mt 22 21,og 23 22 (.mv 7),og 24 22 (.mv 1),og 25 22 (.bin .lss 23 24),oz 26 (.pick 22 25 kF)] (.cond 26 .skip (.exit 0))) (.seq (.blk 1 (sf [oz 29 (.ld true 17 2),mt 30 7,oz 31 (.call Ns [29,30]),oz 32 (.bin .eql 31 (ki 1))] (.cond 32 (sf [oz 8 (.mv (ki 128))] (.seq (sf [oz 9 (.mv (ki 0))] (.blk 2 (.loop [1,2,4,5,6,7,8,9] lP))) (rg false [mt 41 7,oz 42 (.bin .quo 41 (ki 8)),mt 43 7,oz 44 (.bin .quo 43 (ki 8)),oz 45 (.fa 1 5),oz 46 (.iaa 16 1 45 44),oz 47 (.ld false 1 46),mt 48 8,oz 49 (.cvi .u8 48),oz 50 (.bin .add 47 49),oz 51 (.fa 1 5),oz 52 (.iaa 16 1 51 42),on (.st 1 52 50)]))) .skip))) (rg false [mt 27 7,oz 28 (.bin .add 27 (ki 1)),mt 7 28])))
def VZ:Cv:=⟨false,2,54,[.cell true 17 4],(sf [oz 2 (.box 41 17 0),oz 4 (.alloc 41 Ao.zc)] (.seq (sf [oz 10 (.ld true 17 2),oz 11 (.call Hs [10]),oz 12 (.un .not 11)] (.cond 12 (sf [oz 13 (.bld Ao.zc []),on (.st 17 4 13)] .ret) .skip)) (sf [oz 14 (.fa 0 2),oz 15 (.ld false 1 14),oz 16 (.bld Ao.zc [(0,1,15)]),oz 5 (.alloc 41 Ao.zc),on (.st 17 5 16)] (sf [oz 17 (.ld true 17 2),oz 18 (.call K6 [17]),mt 6 18] (.seq (sf [oz 7 (.mv (ki 0))] (.blk 0 (.loop [1,2,4,5,6,7] lO))) (sf [oz 53 (.ld true 17 5),on (.st 17 4 53)] .ret))))))⟩
def lQ:AC:=(.seq (sf [mt 16 5,oz 17 (.bin .lss 16 (ki 16))] (.cond 17 .skip (.exit 0))) (.seq (.blk 1 (sr [mt 20 5,oz 21 (.fa 1 2),oz 22 (.iaa 16 1 21 20),oz 23 (.ld false 1 22),mt 24 5,oz 25 (.fa 1 3),oz 26 (.iaa 16 1 25 24),oz 27 (.ld false 1 26),oz 28 (.bin .neq 23 27)] (.cond 28 (sr [mt 29 5,oz 30 (.fa 1 2),oz 31 (.iaa 16 1 30 29),oz 32 (.ld false 1 31),mt 33 5,oz 34 (.fa 1 3),oz 35 (.iaa 16 1 34 33),oz 36 (.ld false 1 35),oz 37 (.bin .lss 32 36),mt 4 37] .ret) .skip))) (rg false [mt 18 5,oz 19 (.bin .add 18 (ki 1)),mt 5 19])))
def Wa:Cv:=⟨false,2,38,[.tmp 4],(sf [oz 2 (.box 41 17 0),oz 3 (.box 41 17 1),oz 4 (.mv kF)] (.seq (sf [oz 6 (.fa 0 2),oz 7 (.ld false 1 6),oz 8 (.fa 0 3),oz 9 (.ld false 1 8),oz 10 (.bin .neq 7 9)] (.cond 10 (sf [oz 11 (.fa 0 2),oz 12 (.ld false 1 11),oz 13 (.fa 0 3),oz 14 (.ld false 1 13),oz 15 (.bin .lss 12 14),mt 4 15] .ret) .skip)) (.seq (sf [oz 5 (.mv (ki 0))] (.blk 0 (.loop [2,3,5] lQ))) (sf [oz 4 (.mv kF)] .ret))))⟩
def RF:Cv:=⟨false,1,9,[.tmp 2],(sf [oz 2 (.mv kF)] (sf [mt 3 0,oz 4 (.bin .geq 3 (ki 0)),mt 5 4,og 6 5 (.mv 0),og 7 5 (.bin .leq 6 (ki 65535)),oz 8 (.pick 5 7 kF),mt 2 8] .ret))⟩
def YT:AC:=(sf [oz 8 (.bin .lss 7 6)] (.seq (.cond 8 .skip (.exit 0)) (.seq (.blk 1 (sf [mt 9 7,oz 10 (.ias 18 5 7),oz 11 (.ld true 18 10),oz 4 (.alloc 51 Al.zc),mt 3 9,on (.st 18 4 11)] (sr [oz 12 (.ld true 18 4),oz 13 (.call HL [12]),oz 14 (.un .not 13),mt 15 14,oh 16 15 (.mv 3),oh 17 15 (.bin .gtr 16 (ki 0)),oh 18 15 (.mv 17),og 19 18 (.mv 0),og 20 18 (.mv 3),og 21 18 (.bin .sub 20 (ki 1)),og 22 18 (.ias 18 19 21),og 23 18 (.ld true 18 22),og 24 18 (.ld true 18 4),og 25 18 (.call Nw [23,24]),og 26 18 (.un .not 25),oh 27 15 (.pick 18 26 kF),oz 28 (.pick 15 kT 27)] (.cond 28 (sf [oz 2 (.mv kF)] .ret) .skip)))) (rg false [oz 29 (.bin .add 7 (ki 1)),mt 7 29]))))
def PN:Cv:=⟨false,1,30,[.tmp 2],(sf [oz 2 (.mv kF)] (.seq (sf [mt 5 0,oz 6 (.len 5),oz 7 (.mv (ki 0))] (.blk 0 (.loop [0,5,6,7] YT))) (sf [oz 2 (.mv kT)] .ret)))⟩
def MN:Cv:=⟨false,1,6,[.tmp 2],(sf [oz 1 (.box 43 18 0),oz 2 (.mv kF)] (sf [oz 3 (.ld true 18 1),oz 4 (.bld Aw.zc []),oz 5 (.eq false (.agg (kk [(1, .i .i64),(16, .i .u8),(1, .i .i64)])) 3 4),mt 2 5] .ret))⟩
def LF:Cv:=⟨false,1,16,[.tmp 2],(sf [oz 1 (.box 43 18 0),oz 2 (.mv kF)] (sf [oz 3 (.fa 0 1),oz 4 (.ld true 17 3),oz 5 (.call FA [4]),mt 6 5,og 7 6 (.fa 17 1),og 8 6 (.ld false 1 7),og 9 6 (.bin .geq 8 (ki 1)),oz 10 (.pick 6 9 kF),mt 11 10,og 12 11 (.fa 17 1),og 13 11 (.ld false 1 12),og 14 11 (.bin .leq 13 (ki 65535)),oz 15 (.pick 11 14 kF),mt 2 15] .ret))⟩
def MJ:Cv:=⟨false,1,28,[.tmp 2, .tmp 3],(sf [oz 1 (.box 85 2 0),oz 2 (.mv (.k (.s []))),oz 3 (.mv (ki 0))] (.seq (sf [oz 5 (.fa 0 1),oz 6 (.ld false 1 5),oz 7 (.bin .eql 6 (.k (.s []))),mt 8 7,oh 9 8 (.fa 0 1),oh 10 8 (.ld false 1 9),oh 11 8 (.call F1 [10,(.k (.s [61,10]))]),oz 12 (.pick 8 kT 11),mt 13 12,oh 14 13 (.fa 1 1),oh 15 13 (.ld false 1 14),oh 16 13 (.call Eo [15,(.k (.s [10]))]),oz 17 (.pick 13 kT 16)] (.cond 17 (sf [oz 2 (.mv (.k (.s []))),oz 3 (.mv (ki 5))] .ret) .skip)) (sf [oz 18 (.fa 0 1),oz 19 (.ld false 1 18),oz 20 (.bin .add 19 (.k (.s [61]))),oz 21 (.fa 1 1),oz 22 (.ld false 1 21),oz 23 (.bin .add 20 22),mt 4 23] (.seq (sf [mt 24 4,oz 25 (.lens 24),oz 26 (.bin .gtr 25 (ki 512))] (.cond 26 (sf [oz 2 (.mv (.k (.s []))),oz 3 (.mv (ki 4))] .ret) .skip)) (sf [mt 27 4,mt 2 27,oz 3 (.mv (ki 0))] .ret)))))⟩
def bS:AC:=(sf [oz 9 (.bin .lss 8 7)] (.seq (.cond 9 .skip (.exit 0)) (.seq (.blk 1 (sf [oz 10 (.ias 1 6 8),oz 11 (.ld false 1 10),mt 5 11] (sf [mt 12 5,oz 13 (.call BJ [3,12])] (rg false [oz 14 (.call BJ [3,(.k (.s [10]))])])))) (rg false [oz 15 (.bin .add 8 (ki 1)),mt 8 15]))))
def RN:Cv:=⟨false,1,17,[.tmp 2],(sf [oz 2 (.mv (.k (.s [])))] (sf [oz 3 (.alloc 119 (zz [(1, .nilp),(1, .nils)]))] (.seq (sf [mt 6 0,oz 7 (.len 6),oz 8 (.mv (ki 0))] (.blk 0 (.loop [3,6,7,8] bS))) (sf [oz 16 (.call Db [3]),mt 2 16] .ret))))⟩
def RQ:Cv:=⟨false,1,24,[.cell true 2 2, .tmp 3],(sf [oz 1 (.box 55 70 0),oz 2 (.alloc 85 Ak.zc),oz 3 (.mv (ki 0))] (.seq (sf [oz 6 (.ld true 70 1),oz 7 (.call KE [6]),oz 8 (.un .not 7)] (.cond 8 (sf [oz 9 (.bld Ak.zc []),on (.st 2 2 9),oz 3 (.mv (ki 1))] .ret) .skip)) (.seq (.regd [oz 11 (.fa 0 1),oz 12 (.ld false 1 11),oz 13 (.call GU [12]),oz 14 (.fld false 1 1 13),oz 15 (.ld true 70 1),oz 16 (.callv 14 [15]),mt 10 16,oz 17 (.ext 10 0),oz 18 (.ext 10 1),mt 4 17,mt 5 18] [some (0,0),some (0,0),none,some (1,1),some (0,1),none,some (2,2),some (2,2),some (2,2),some (2,2),some (2,2)]) (sf [oz 19 (.fa 0 1),oz 20 (.ld false 1 19),oz 21 (.call Jt [20]),mt 22 4,oz 23 (.bld Ak.zc [(0,1,21),(1,1,22)]),on (.st 2 2 23),oz 3 (.mv (ki 0))] .ret))))⟩
def PS:Cv:=⟨false,1,13,[.tmp 2, .tmp 3],(sf [oz 2 (.mv (.k (.nils))),oz 3 (.mv kF)] (.seq (sf [mt 4 0,oz 5 (.bin .neq 4 (.k (.s []))),mt 6 5,og 7 6 (.mv 0),og 8 6 (.call Gw [7,(.k (.s [10]))]),og 9 6 (.un .not 8),oz 10 (.pick 6 9 kF)] (.cond 10 (sf [oz 2 (.mv (.k (.nils))),oz 3 (.mv kF)] .ret) .skip)) (sf [mt 11 0,oz 12 (.call K9 [11]),mt 2 12,oz 3 (.mv kT)] .ret)))⟩
def PP:AC:=(sf [oz 9 (.bin .lss 8 7)] (.seq (.cond 9 .skip (.exit 0)) (.seq (.blk 1 (sf [mt 10 8,mt 5 10] (sf [mt 11 1,mt 12 0,mt 13 5,oz 14 (.ias 1 12 13),oz 15 (.ld false 1 14),oz 16 (.bin .eql 11 15)] (.cond 16 (sf [mt 17 5,mt 4 17] .ret) .skip)))) (rg false [oz 18 (.bin .add 8 (ki 1)),mt 8 18]))))
def HV:Cv:=⟨false,2,19,[.tmp 4],(sf [oz 4 (.mv (ki 0))] (.seq (sf [mt 6 0,oz 7 (.len 6),oz 8 (.mv (ki 0))] (.blk 0 (.loop [0,1,7,8] PP))) (sf [oz 4 (.mv (ki (-1)))] .ret)))⟩
def LD:Cv:=⟨false,1,31,[.cell true 2 2, .tmp 3],(sf [oz 2 (.alloc 85 Ak.zc),oz 3 (.mv (ki 0))] (.seq (sf [mt 7 0,oz 8 (.lens 7),oz 9 (.bin .gtr 8 (ki 512))] (.cond 9 (sf [oz 10 (.bld Ak.zc []),on (.st 2 2 10),oz 3 (.mv (ki 4))] .ret) .skip)) (sf [mt 12 0,oz 13 (.call F4 [12,(.k (.i .u8 61))]),mt 11 13,oz 14 (.ext 11 0),oz 15 (.ext 11 1),oz 16 (.ext 11 2),mt 4 14,mt 5 15,mt 6 16] (.seq (sf [mt 17 6,oz 18 (.un .not 17),mt 19 18,oh 20 19 (.mv 4),oh 21 19 (.bin .eql 20 (.k (.s []))),oz 22 (.pick 19 kT 21),mt 23 22,oh 24 23 (.mv 0),oh 25 23 (.call Eo [24,(.k (.s [10]))]),oz 26 (.pick 23 kT 25)] (.cond 26 (sf [oz 27 (.bld Ak.zc []),on (.st 2 2 27),oz 3 (.mv (ki 5))] .ret) .skip)) (sf [mt 28 4,mt 29 5,oz 30 (.bld Ak.zc [(0,1,28),(1,1,29)]),on (.st 2 2 30),oz 3 (.mv (ki 0))] .ret)))))⟩
def GZ:Cv:=⟨false,2,25,[.cell true 70 4],(sf [oz 4 (.alloc 55 Ae.zc)] (sf [mt 8 0,mt 9 1,oz 10 (.call Cy [8,9]),mt 7 10,oz 11 (.ext 7 0),oz 12 (.ext 7 1),oz 5 (.alloc 55 Ae.zc),on (.st 70 5 11),mt 6 12] (sf [mt 13 0,mt 14 0,oz 15 (.nilc 14),oz 16 (.fa 2 15),oz 17 (.ld false 1 16),mt 18 17,oh 19 18 (.mv 6),oh 20 18 (.un .not 19),oz 21 (.pick 18 kT 20),oz 22 (.nilc 13),oz 23 (.fa 2 22),on (.st 1 23 21)] (sf [oz 24 (.ld true 70 5),on (.st 70 4 24)] .ret))))⟩
def GY:Cv:=⟨false,2,63,[.cell true 70 4, .tmp 5],(sf [oz 4 (.alloc 55 Ae.zc),oz 5 (.mv kF)] (.seq (sr [mt 8 0,oz 9 (.nilc 8),oz 10 (.fa 1 9),oz 11 (.ld false 1 10),mt 12 0,oz 13 (.nilc 12),oz 14 (.fa 0 13),oz 15 (.ld false 1 14),oz 16 (.len 15),oz 17 (.bin .geq 11 16),mt 18 17,oh 19 18 (.mv 0),oh 20 18 (.nilc 19),oh 21 18 (.fa 0 20),oh 22 18 (.ld false 1 21),oh 23 18 (.mv 0),oh 24 18 (.nilc 23),oh 25 18 (.fa 1 24),oh 26 18 (.ld false 1 25),oh 27 18 (.ias 2 22 26),oh 28 18 (.fa 0 27),oh 29 18 (.ld false 1 28),oh 30 18 (.call Js [29]),oh 31 18 (.mv 1),oh 32 18 (.bin .neq 30 31),oz 33 (.pick 18 kT 32)] (.cond 33 (sf [oz 34 (.bld Ae.zc []),on (.st 70 4 34),oz 5 (.mv kF)] .ret) .skip)) (.seq (.regd [mt 36 0,oz 37 (.nilc 36),oz 38 (.fa 0 37),oz 39 (.ld false 1 38),mt 40 0,oz 41 (.nilc 40),oz 42 (.fa 1 41),oz 43 (.ld false 1 42),oz 44 (.ias 2 39 43),oz 45 (.ld true 2 44),oz 46 (.call LX [45]),mt 35 46,oz 47 (.ext 35 0),oz 48 (.ext 35 1),oz 6 (.alloc 55 Ae.zc),on (.st 70 6 47),mt 7 48] [some (0,1),some (0,1),some (0,1),some (0,1),some (0,1),some (0,1),some (0,1),some (0,1),some (0,1),some (0,1),some (0,1),some (0,1),some (0,1),some (0,2),none,none,some (2,2)]) (.seq (sf [mt 49 7,oz 50 (.bin .neq 49 (ki 0))] (.cond 50 (sf [mt 51 0,oz 52 (.nilc 51),oz 53 (.fa 2 52),on (.st 1 53 kT)] (sf [oz 54 (.bld Ae.zc []),on (.st 70 4 54),oz 5 (.mv kF)] .ret)) .skip)) (sf [mt 55 0,oz 56 (.nilc 55),oz 57 (.fa 1 56),oz 58 (.ld false 1 57),oz 59 (.bin .add 58 (ki 1)),oz 60 (.nilc 55),oz 61 (.fa 1 60),on (.st 1 61 59)]
 (sf [oz 62 (.ld true 70 6),on (.st 70 4 62),oz 5 (.mv kT)] .ret))))))⟩
def Oo:AC:=(.blk 1 (sf [mt 43 0,oz 44 (.call Cy [43,(ki 12)]),mt 42 44,oz 45 (.ext 42 0),oz 46 (.ext 42 1),oz 9 (.alloc 55 Ae.zc),on (.st 70 9 45),mt 10 46] (.seq (sf [mt 47 10,oz 48 (.un .not 47)] (.cond 48 (sf [oz 49 (.ld true 86 5),on (.st 86 4 49)] .ret) .skip)) (rg false [oz 50 (.fa 85 5),oz 51 (.ld false 1 50),oz 52 (.fa 52 9),oz 53 (.ld true 18 52),oz 54 (.bll 18 (az 1 Al.zc) [(0,53)]),oz 55 (.app 51 18 32 51 54),oz 56 (.fa 85 5),on (.st 1 56 55)]))))
def GX:Cv:=⟨false,2,57,[.cell true 86 4],(sf [oz 3 (.box 23 32 1),oz 4 (.alloc 47 A5.zc)] (.seq (.regd [oz 11 (.ld true 32 3),mt 12 0,oz 13 (.call BI [12,(ki 8)]),oz 14 (.fld true 1 32 13),oz 15 (.bld A5.zc [(0,32,11),(32,32,14)]),oz 5 (.alloc 47 A5.zc),on (.st 86 5 15)] [some (0,2),some (0,0),none,some (1,2),some (1,2),none,none]) (sf [mt 16 0,oz 17 (.call BI [16,(ki 13)])] (.seq (sf [mt 19 0,oz 20 (.call Cy [19,(ki 9)]),mt 18 20,oz 21 (.ext 18 0),oz 22 (.ext 18 1),oz 6 (.alloc 55 Ae.zc),on (.st 70 6 21),mt 7 22] (sf [mt 23 7] (.cond 23 (rg false [oz 24 (.fa 34 6),oz 25 (.ld true 18 24),oz 26 (.fa 64 5),on (.st 18 26 25)]) .skip))) (sf [mt 27 0,oz 28 (.mkf (.func BI) [27] []),mt 8 28] (sf [mt 29 8,oz 30 (.callv 29 [(ki 14)]),oz 31 (.fld false 33 1 30),mt 32 8,oz 33 (.callv 32 [(ki 15)]),oz 34 (.fld false 33 1 33),mt 35 8,oz 36 (.callv 35 [(ki 10)]),oz 37 (.fld false 33 1 36),oz 38 (.cvi .i64 37),oz 39 (.fa 83 5),on (.st 1 39 31),oz 40 (.fa 84 5),on (.st 1 40 34),oz 41 (.fa 82 5),on (.st 1 41 38)] (.blk 0 (.loop [0,4,5] Oo))))))))⟩
def lN:AC:=(.seq (sf [mt 11 5,mt 12 0,oz 13 (.len 12),oz 14 (.bin .lss 11 13)] (.cond 14 .skip (.exit 0))) (.seq (.blk 1 (sr [mt 17 0,mt 18 5,oz 19 (.ias 18 17 18),oz 20 (.ld true 18 19),mt 21 1,mt 22 5,oz 23 (.ias 18 21 22),oz 24 (.ld true 18 23),oz 25 (.eq true (.agg (kk [(1, .i .i64),(16, .i .u8),(1, .i .i64)])) 20 24)] (.cond 25 (sf [oz 4 (.mv kF)] .ret) .skip))) (rg false [mt 15 5,oz 16 (.bin .add 15 (ki 1)),mt 5 16])))
def VX:Cv:=⟨false,2,26,[.tmp 4],(sf [oz 4 (.mv kF)] (.seq (sf [mt 6 0,oz 7 (.len 6),mt 8 1,oz 9 (.len 8),oz 10 (.bin .neq 7 9)] (.cond 10 (sf [oz 4 (.mv kF)] .ret) .skip)) (.seq (sf [oz 5 (.mv (ki 0))] (.blk 0 (.loop [0,1,5] lN))) (sf [oz 4 (.mv kT)] .ret))))⟩
def iP:AC:=(.seq (sf [mt 8 7,mt 9 0,oz 10 (.lens 9),oz 11 (.bin .lss 8 10)] (.cond 11 .skip (.exit 0))) (.seq (.blk 1 (sf [mt 14 0,mt 15 7,oz 16 (.ixs 14 15),mt 17 1,oz 18 (.bin .eql 16 17)] (.cond 18 (sf [mt 19 6,mt 20 0,mt 21 5,mt 22 7,oz 23 (.sls 20 (some 21) (some 22)),oz 24 (.bll 1 (az 1 Au.zc) [(0,23)]),oz 25 (.app 9 1 16 19 24),mt 6 25] (rg false [mt 26 7,oz 27 (.bin .add 26 (ki 1)),mt 5 27])) .skip))) (rg false [mt 12 7,oz 13 (.bin .add 12 (ki 1)),mt 7 13])))
def xG:Cv:=⟨false,2,34,[.tmp 4],(sf [oz 4 (.mv (.k (.nils)))] (sf [oz 5 (.mv (ki 0))] (sf [oz 6 (.mv (.k (.nils)))] (.seq (sf [oz 7 (.mv (ki 0))] (.blk 0 (.loop [0,1,5,6,7] iP))) (sf [mt 28 6,mt 29 0,mt 30 5,oz 31 (.sls 29 (some 30) none),oz 32 (.bll 1 (az 1 Au.zc) [(0,31)]),oz 33 (.app 9 1 16 28 32),mt 4 33] .ret)))))⟩
def xF:Cv:=⟨false,1,32,[.cell true 2 2, .tmp 3],(sf [oz 2 (.alloc 74 LM.zc),oz 3 (.mv (ki 0))] (.seq (sf [mt 5 0,oz 6 (.lens 5),oz 7 (.bin .gtr 6 (ki 512))] (.cond 7 (sf [oz 8 (.bld LM.zc []),on (.st 2 2 8),oz 3 (.mv (ki 4))] .ret) .skip)) (sf [mt 9 0,oz 10 (.call Nt [9,(.k (.i .u8 61))]),oz 11 (.ias 1 10 (ki 0)),oz 12 (.ld false 1 11),mt 4 12] (.seq (sf [mt 13 4,oz 14 (.bin .eql 13 (.k (.s []))),mt 15 14,oh 16 15 (.mv 0),oh 17 15 (.call VM [16,(.k (.i .u8 61))]),oh 18 15 (.un .not 17),oz 19 (.pick 15 kT 18),mt 20 19,oh 21 20 (.mv 0),oh 22 20 (.call VM [21,(.k (.i .u8 10))]),oz 23 (.pick 20 kT 22)] (.cond 23 (sf [oz 24 (.bld LM.zc []),on (.st 2 2 24),oz 3 (.mv (ki 5))] .ret) .skip)) (sf [mt 25 4,mt 26 0,mt 27 4,oz 28 (.lens 27),oz 29 (.bin .add 28 (ki 1)),oz 30 (.sls 26 (some 29) none),oz 31 (.bld LM.zc [(0,1,25),(1,1,30)]),on (.st 2 2 31),oz 3 (.mv (ki 0))] .ret)))))⟩
def iN:AC:=(.seq (sf [mt 13 6,mt 14 1,oz 15 (.bin .rem 14 (ki 8)),oz 16 (.bin .gtr 13 15)] (.cond 16 .skip (.exit 0))) (.seq (.blk 1 (rg false [mt 19 5,oz 20 (.bin .quo 19 (ki 2)),mt 5 20])) (rg false [mt 17 6,oz 18 (.bin .sub 17 (ki 1)),mt 6 18])))
def TC:Cv:=⟨false,2,23,[.tmp 4],(sf [oz 2 (.box 41 17 0),oz 4 (.mv (ki 0))] (sf [mt 7 1,oz 8 (.bin .quo 7 (ki 8)),oz 9 (.fa 1 2),oz 10 (.iaa 16 1 9 8),oz 11 (.ld false 1 10),oz 12 (.cvi .i64 11),mt 5 12] (.seq (sf [oz 6 (.mv (ki 7))] (.blk 0 (.loop [1,5,6] iN))) (sf [mt 21 5,oz 22 (.bin .rem 21 (ki 2)),mt 4 22] .ret))))⟩
def RU:Cv:=⟨false,1,20,[.tmp 2],(sf [oz 1 (.box 51 18 0),oz 2 (.mv kF)] (sf [oz 6 (.fa 0 1),oz 7 (.ld true 17 6),oz 8 (.fa 17 1),oz 9 (.ld false 1 8),oz 10 (.call LA [7,9]),mt 5 10,oz 11 (.ext 5 0),oz 12 (.ext 5 1),oz 3 (.alloc 51 Al.zc),on (.st 18 3 11),mt 4 12] (sf [mt 13 4,oz 14 (.bin .eql 13 (ki 0)),mt 15 14,og 16 15 (.ld true 18 3),og 17 15 (.ld true 18 1),og 18 15 (.eq false (.agg (kk [(1, .i .i64),(16, .i .u8),(1, .i .i64)])) 16 17),oz 19 (.pick 15 18 kF),mt 2 19] .ret)))⟩
def TM:Cv:=⟨false,2,20,[.tmp 4],(sf [oz 2 (.box 51 18 0),oz 3 (.box 51 18 1),oz 4 (.mv kF)] (.seq (sf [oz 5 (.fa 0 2),oz 6 (.ld true 17 5),oz 7 (.fa 0 3),oz 8 (.ld true 17 7),oz 9 (.eq false (.agg (kk [(1, .i .i64),(16, .i .u8)])) 6 8)] (.cond 9 (sf [oz 10 (.fa 17 2),oz 11 (.ld false 1 10),oz 12 (.fa 17 3),oz 13 (.ld false 1 12),oz 14 (.bin .lss 11 13),mt 4 14] .ret) .skip)) (sf [oz 15 (.fa 0 2),oz 16 (.ld true 17 15),oz 17 (.fa 0 3),oz 18 (.ld true 17 17),oz 19 (.call Ny [16,18]),mt 4 19] .ret)))⟩
def RX:Cv:=⟨false,1,20,[.tmp 2],(sf [oz 1 (.box 41 17 0),oz 2 (.mv kF)] (sr [oz 3 (.fa 0 1),oz 4 (.ld false 1 3),oz 5 (.bin .eql 4 (ki 6)),mt 6 5,oh 7 6 (.fa 0 1),oh 8 6 (.ld false 1 7),oh 9 6 (.bin .eql 8 (ki 4)),oh 10 6 (.mv 9),og 11 10 (.ld true 17 1),og 12 10 (.fa 1 1),og 13 10 (.sla 16 1 12 none (some (ki 4))),og 14 10 (.s2a 4 1 13),og 15 10 (.ld true 4 14),og 16 10 (.call KG [15]),og 17 10 (.eq false (.agg (kk [(1, .i .i64),(16, .i .u8)])) 11 16),oh 18 6 (.pick 10 17 kF),oz 19 (.pick 6 kT 18),mt 2 19] .ret))⟩
def HU:Cv:=⟨false,2,9,[.tmp 4],(sf [oz 4 (.mv kF)] (sf [mt 5 0,mt 6 1,oz 7 (.call GL [5,6]),oz 8 (.bin .geq 7 (ki 0)),mt 4 8] .ret))⟩
def JW:Cv:=⟨false,2,9,[.tmp 4],(sf [oz 4 (.mv kF)] (sf [mt 5 0,mt 6 1,oz 7 (.call FH [5,6]),oz 8 (.bin .geq 7 (ki 0)),mt 4 8] .ret))⟩
def GF:Cv:=⟨false,2,19,[.tmp 4, .tmp 5],(sf [oz 4 (.mv (ki 0)),oz 5 (.mv (.k (.nili)))] (sf [mt 6 0,oz 7 (.call C5 [6])] (sf [mt 8 0,mt 9 0,oz 10 (.nilc 9),oz 11 (.fa 1 10),oz 12 (.ld false 1 11),mt 13 1,oz 14 (.app 5 1 1 12 13),oz 15 (.nilc 8),oz 16 (.fa 1 15),on (.st 1 16 14)] (sf [mt 17 1,oz 18 (.lens 17),mt 4 18,oz 5 (.mv (.k (.nili)))] .ret))))⟩
def Iz:Cv:=⟨false,1,14,[.tmp 2],(sf [oz 2 (.mv (.k (.s [])))] (.seq (.regd [mt 3 0,oz 4 (.nilc 3),oz 5 (.fa 1 4),oz 6 (.ld false 1 5),oz 7 (.usd 6),mt 8 0,oz 9 (.nilc 8),oz 10 (.fa 1 9),oz 11 (.ld false 1 10),oz 12 (.len 11),oz 13 (.ust 5 7 12),mt 2 13] [some (0,0),some (0,0),some (0,0),some (0,0),some (0,0),some (0,0),some (0,0),some (0,0),some (0,0),some (0,0),none,some (1,1)]) .ret))⟩
def Qa:Cv:=⟨false,1,31,[.tmp 2],(sf [oz 1 (.box 55 70 0),oz 2 (.mv kF)] (.seq (sf [oz 6 (.fa 0 1),oz 7 (.ld false 1 6),oz 8 (.call Jt [7]),oz 9 (.bin .eql 8 (.k (.s [])))] (.cond 9 (sf [oz 2 (.mv kF)] .ret) .skip)) (sf [oz 10 (.fa 0 1),oz 11 (.ld false 1 10),oz 12 (.call GU [11]),oz 3 (.alloc 130 (zz [(3, .nilf)])),on (.st 3 3 12)] (sf [oz 14 (.fa 1 3),oz 15 (.ld false 1 14),oz 16 (.ld true 70 1),oz 17 (.callv 15 [16]),mt 13 17,oz 18 (.ext 13 0),oz 19 (.ext 13 1),mt 4 18,mt 5 19] (.seq (.regd [mt 20 5,mt 21 20,og 22 21 (.fa 2 3),og 23 21 (.ld false 1 22),og 24 21 (.ld true 70 1),og 25 21 (.callv 23 [24]),og 26 21 (.fa 0 1),og 27 21 (.ld false 1 26),og 28 21 (.bld Ae.zc [(0,1,27)]),og 29 21 (.eq false (.agg (kk [(1, .i .i64),(32, .i .u8),(1, .i .u64),(1, .i .i64),(16, .i .u8),(2, .i .i64),(16, .i .u8),(1, .i .i64)])) 25 28),oz 30 (.pick 21 29 kF),mt 2 30] [some (0,0),some (0,0),some (0,0),some (0,0),some (0,0),none,some (0,1),some (0,1),some (0,1),some (1,1),some (1,1),some (1,1)]) .ret)))))⟩
def S7:Cv:=⟨true,1,33,[.cell true 3 2],(sf [oz 2 (.alloc 130 (zz [(3, .nilf)]))] (.seq (sf [mt 3 0] (.blk 0 (.seq (sf [oz 5 (.bin .eql 3 (ki 1)),mt 4 5] (.cond 4 .skip (sf [oz 6 (.bin .eql 3 (ki 5)),mt 4 6] (.cond 4 .skip (rg false [oz 7 (.bin .eql 3 (ki 8)),mt 4 7]))))) (.cond 4 (sf [oz 8 (.call Od []),on (.st 3 2 8)] .ret) (sf [oz 10 (.bin .eql 3 (ki 9)),mt 9 10] (.cond 9 (sf [oz 11 (.call Oe []),on (.st 3 2 11)] .ret) (sf [oz 13 (.bin .eql 3 (ki 12)),mt 12 13] (.cond 12 (sf [oz 14 (.call L9 []),on (.st 3 2 14)] .ret) (.seq (sf [oz 16 (.bin .eql 3 (ki 2)),mt 15 16] (.cond 15 .skip (rg false [oz 17 (.bin .eql 3 (ki 10)),mt 15 17]))) (.cond 15 (sf [oz 18 (.call EE [(.k (.i .u64 0)),(.k (.i .u64 65535))]),on (.st 3 2 18)] .ret) (sf [oz 20 (.bin .eql 3 (ki 3)),mt 19 20] (.cond 19 (sf [oz 21 (.call EE [(.k (.i .u64 0)),(.k (.i .u64 4294967295))]),on (.st 3 2 21)] .ret) (sf [oz 23 (.bin .eql 3 (ki 13)),mt 22 23] (.cond 22 (sf [oz 24 (.call EE [(.k (.i .u64 1)),(.k (.i .u64 1))]),on (.st 3 2 24)] .ret) (.seq (sf [oz 26 (.bin .eql 3 (ki 14)),mt 25 26] (.cond 25 .skip (rg false [oz 27 (.bin .eql 3 (ki 15)),mt 25 27]))) (.cond 25 (sf [oz 28 (.call EE [(.k (.i .u64 0)),(.k (.i .u64 18446744073709551615))]),on (.st 3 2 28)] .ret) (sf [oz 30 (.bin .eql 3 (ki 16)),mt 29 30] (.cond 29 (sf [oz 31 (.call EE [(.k (.i .u64 0)),(.k (.i .u64 20))]),on (.st 3 2 31)] .ret) .skip)))))))))))))))))) (sf [oz 32 (.call PE []),on (.st 3 2 32)] .ret)))⟩
def RR:Cv:=⟨false,1,12,[.tmp 2],(sf [oz 2 (.mv (.k (.s [])))] (.seq (sf [mt 3 0,oz 4 (.bin .lss 3 (ki 1)),mt 5 4,oh 6 5 (.mv 0),oh 7 5 (.bin .gtr 6 (ki 16)),oz 8 (.pick 5 kT 7)] (.cond 8 (sf [oz 2 (.mv (.k (.s [])))] .ret) .skip)) (sf [mt 9 0,oz 10 (.iaa 17 1 (.g 0) 9),oz 11 (.ld false 1 10),mt 2 11] .ret)))⟩
def Jb:Cv:=⟨false,2,8,[.tmp 4],(sf [oz 4 (.mv kF)] (sf [mt 5 0,mt 6 1,oz 7 (.call Co [5,6]),mt 4 7] .ret))⟩
def PU:Cv:=⟨false,1,8,[.tmp 2],(sf [oz 2 (.mv (.k (.nils)))] (.seq (sf [mt 3 0,oz 4 (.bin .eql 3 (.k (.s [])))] (.cond 4 (sf [oz 2 (.mv (.k (.nils)))] .ret) .skip)) (sf [mt 5 0,oz 6 (.call FZ [5,(.k (.s [10]))]),oz 7 (.call IE [6,(.k (.s [10]))]),mt 2 7] .ret)))⟩
def TG:Cv:=⟨false,2,21,[.tmp 4, .tmp 5, .tmp 6],(sf [oz 4 (.mv (.k (.s []))),oz 5 (.mv (.k (.s []))),oz 6 (.mv kF)] (sf [mt 8 0,mt 9 1,oz 10 (.call Dg [8,9]),mt 7 10] (.seq (sf [mt 11 7,oz 12 (.bin .lss 11 (ki 0))] (.cond 12 (sf [mt 13 0,mt 4 13,oz 5 (.mv (.k (.s []))),oz 6 (.mv kF)] .ret) .skip)) (sr [mt 14 0,mt 15 7,oz 16 (.sls 14 none (some 15)),mt 17 0,mt 18 7,oz 19 (.bin .add 18 (ki 1)),oz 20 (.sls 17 (some 19) none),mt 4 16,mt 5 20,oz 6 (.mv kT)] .ret))))⟩
def RO:Cv:=⟨false,1,7,[.tmp 2],(sf [oz 2 (.mv (ki 0))] (sf [oz 3 (.sla 17 1 (.g 0) none none),mt 4 0,oz 5 (.call Ea [3,4]),oz 6 (.mnx true 5 (ki 0)),mt 2 6] .ret))⟩
def RP:Cv:=⟨false,1,26,[.cell true 70 2, .tmp 3],(sf [oz 1 (.box 85 2 0),oz 2 (.alloc 55 Ae.zc),oz 3 (.mv (ki 0))] (sf [oz 6 (.fa 0 1),oz 7 (.ld false 1 6),oz 8 (.call Js [7]),oz 9 (.bld Ae.zc [(0,1,8)]),oz 4 (.alloc 55 Ae.zc),on (.st 70 4 9)] (.seq (sf [oz 10 (.fa 0 4),oz 11 (.ld false 1 10),oz 12 (.bin .eql 11 (ki 0))] (.cond 12 (sf [oz 13 (.bld Ae.zc []),on (.st 70 2 13),oz 3 (.mv (ki 12))] .ret) .skip)) (.seq (.seq (.regd [oz 14 (.fa 0 4),oz 15 (.ld false 1 14),oz 16 (.call GU [15]),oz 17 (.fld false 0 1 16),oz 18 (.fa 1 1),oz 19 (.ld false 1 18),oz 20 (.callv 17 [19,4]),mt 5 20] [some (0,0),some (0,0),none,some (1,1),some (0,1),some (0,1),none,some (2,2)]) (sf [mt 21 5,oz 22 (.bin .neq 21 (ki 0))] (.cond 22 (sf [oz 23 (.bld Ae.zc []),mt 24 5,on (.st 70 2 23),mt 3 24] .ret) .skip))) (sf [oz 25 (.ld true 70 4),on (.st 70 2 25),oz 3 (.mv (ki 0))] .ret)))))⟩
def c_r36_has:Cv:=⟨false,2,10,[.tmp 4],(sf [oz 4 (.mv kF)] (sf [mt 5 0,mt 6 1,oz 7 (.call Nt [5,6]),oz 8 (.len 7),oz 9 (.bin .gtr 8 (ki 1)),mt 4 9] .ret))⟩
def Za:Cv:=⟨false,2,26,[.cell true 18 4, .tmp 5],(sf [oz 2 (.box 41 17 0),oz 4 (.alloc 51 Al.zc),oz 5 (.mv (ki 0))] (.seq (.blk 0 (sf [oz 7 (.ld true 17 2),oz 8 (.call FA [7]),oz 9 (.un .not 8),mt 6 9] (.cond 6 (sf [oz 10 (.bld Al.zc []),on (.st 18 4 10),oz 5 (.mv (ki 1))] .ret) (sf [mt 12 1,oz 13 (.bin .lss 12 (ki 0)),mt 14 13,oh 15 14 (.mv 1),oh 16 14 (.ld true 17 2),oh 17 14 (.call GA [16]),oh 18 14 (.bin .gtr 15 17),oz 19 (.pick 14 kT 18),mt 11 19] (.cond 11 (sf [oz 20 (.bld Al.zc []),on (.st 18 4 20),oz 5 (.mv (ki 6))] .ret) .skip))))) (sf [oz 21 (.ld true 17 2),mt 22 1,oz 23 (.call Nx [21,22]),mt 24 1,oz 25 (.bld Al.zc [(0,17,23),(17,1,24)]),on (.st 18 4 25),oz 5 (.mv (ki 0))] .ret)))⟩
def TP:Cv:=⟨false,2,21,[.tmp 4],(sf [oz 2 (.box 41 17 0),oz 3 (.box 41 17 1),oz 4 (.mv kF)] (.seq (sf [oz 5 (.fa 0 2),oz 6 (.ld false 1 5),oz 7 (.fa 0 3),oz 8 (.ld false 1 7),oz 9 (.bin .neq 6 8)] (.cond 9 (sf [oz 10 (.fa 0 2),oz 11 (.ld false 1 10),oz 12 (.fa 0 3),oz 13 (.ld false 1 12),oz 14 (.bin .lss 11 13),mt 4 14] .ret) .skip)) (sr [oz 15 (.fa 1 2),oz 16 (.sla 16 1 15 none none),oz 17 (.fa 1 3),oz 18 (.sla 16 1 17 none none),oz 19 (.call IN [16,18]),oz 20 (.bin .lss 19 (ki 0)),mt 4 20] .ret)))⟩
def TQ:Cv:=⟨false,1,10,[.cell true 17 2],(sf [oz 1 (.box 153 4 0),oz 2 (.alloc 41 Ao.zc)] (sf [oz 4 (.bld Ao.zc [(0,1,(ki 4))]),oz 3 (.alloc 41 Ao.zc),on (.st 17 3 4)] (.seq (.regd [oz 5 (.fa 1 3),oz 6 (.sla 16 1 5 none none),oz 7 (.sla 4 1 1 none none),oz 8 (.cpy 1 6 7)] [some (0,0),some (0,0),some (0,0),none]) (sf [oz 9 (.ld true 17 3),on (.st 17 2 9)] .ret))))⟩
def SQ:AC:=(.seq (sf [mt 33 8,mt 34 0,oz 35 (.lens 34),oz 36 (.bin .lss 33 35)] (.cond 36 .skip (.exit 0))) (.seq (.blk 1 (sf [mt 39 0,mt 40 8,oz 41 (.ixs 39 40),oz 42 (.call Dn [6,41])] (.cond 42 (sf [mt 43 8,mt 4 43] .ret) .skip))) (rg false [mt 37 8,oz 38 (.bin .add 37 (ki 1)),mt 8 38])))
def SP:AC:=(sf [oz 46 (.nxt 45),oz 47 (.ext 46 0)] (.seq (.cond 47 .skip (.exit 2)) (.blk 3 (sf [oz 48 (.ext 46 1),oz 49 (.ext 46 2),mt 9 48,mt 10 49] (sf [mt 50 1,mt 51 10,oz 52 (.call EU [50,51]),oz 53 (.bin .geq 52 (ki 0))] (.cond 53 (sf [mt 54 9,mt 4 54] .ret) .skip))))))
def JV:Cv:=⟨false,2,55,[.tmp 4],(sf [oz 4 (.mv (ki 0))] (.seq (sf [mt 11 1,oz 12 (.bin .eql 11 (.k (.s [])))] (.cond 12 (sf [oz 4 (.mv (ki (-1)))] .ret) .skip)) (.seq (sf [mt 13 1,oz 14 (.lens 13),oz 15 (.bin .eql 14 (ki 1))] (.cond 15 (sf [mt 16 1,oz 17 (.ixs 16 (ki 0)),oz 18 (.cvi .i32 17),mt 5 18] (.seq (sf [mt 19 5,oz 20 (.bin .geq 19 (.k (.i .i32 128)))] (.cond 20 (rg false [oz 5 (.mv (.k (.i .i32 65533)))]) .skip)) (sf [mt 21 0,mt 22 5,oz 23 (.call EU [21,22]),mt 4 23] .ret))) .skip)) (.seq (sf [mt 24 0,oz 25 (.lens 24),oz 26 (.call D7 [25])] (.cond 26 (sf [mt 28 1,oz 29 (.call Fe [28]),mt 27 29,oz 30 (.ext 27 0),oz 31 (.ext 27 1),oz 6 (.alloc 177 (aw 256 du).zc),on (.st 256 6 30),mt 7 31] (sf [mt 32 7] (.cond 32 (.seq (sf [oz 8 (.mv (ki 0))] (.blk 0 (.loop [0,6,8] SQ))) (sf [oz 4 (.mv (ki (-1)))] .ret)) .skip))) .skip)) (.seq (sf [mt 44 0,oz 45 (.rng 44)] (.blk 2 (.loop [1,45] SP))) (sf [oz 4 (.mv (ki (-1)))] .ret))))))⟩
def MH:Cv:=⟨false,2,8,[.tmp 4],(sf [oz 4 (.mv (ki 0))] (sf [mt 5 0,mt 6 1,oz 7 (.call CB [5,6]),mt 4 7] .ret))⟩
def Hj:Cv:=⟨false,1,20,[],(sf [mt 2 0,oz 3 (.nilc 2),oz 4 (.fa 0 3),oz 5 (.ld false 1 4),oz 6 (.eq false .p 5 (.k (.nilp)))] (.cond 6 (rg false [mt 7 0,mt 8 0,oz 9 (.cvp 8),oz 10 (.call G9 [9]),oz 11 (.cvu 119 2 10),oz 12 (.nilc 7),oz 13 (.fa 0 12),on (.st 1 13 11)]) (sf [mt 14 0,oz 15 (.nilc 14),oz 16 (.fa 0 15),oz 17 (.ld false 1 16),mt 18 0,oz 19 (.eqp true 17 18)] (.cond 19 .stop .skip))))⟩
def Vi:Cv:=⟨true,0,2,[.cell true 3 0],(sf [oz 0 (.alloc 130 (zz [(3, .nilf)]))] (sf [oz 1 (.bld (zz [(3, .nilf)]) [(0,1,(.f EC)),(1,1,(.f DI)),(2,1,(.f DH))]),on (.st 3 0 1)] .ret))⟩
def Vj:Cv:=⟨true,0,2,[.cell true 3 0],(sf [oz 0 (.alloc 130 (zz [(3, .nilf)]))] (sf [oz 1 (.bld (zz [(3, .nilf)]) [(0,1,(.f ED)),(1,1,(.f DK)),(2,1,(.f DJ))]),on (.st 3 0 1)] .ret))⟩
def SB:Cv:=⟨true,0,2,[.cell true 3 0],(sf [oz 0 (.alloc 130 (zz [(3, .nilf)]))] (sf [oz 1 (.bld (zz [(3, .nilf)]) [(0,1,(.f DC)),(1,1,(.f Di)),(2,1,(.f Dh))]),on (.st 3 0 1)] .ret))⟩
def SA:Cv:=⟨true,2,8,[.cell true 3 4],(sf [oz 2 (.box 44 1 0),oz 3 (.box 44 1 1),oz 4 (.alloc 130 (zz [(3, .nilf)]))] (sf [oz 5 (.mkf (.func Bt) [] [3,2]),oz 6 (.mkf (.func Bs) [] [2,3]),oz 7 (.bld (zz [(3, .nilf)]) [(0,1,5),(1,1,6),(2,1,(.f Bo))]),on (.st 3 4 7)] .ret))⟩
def X9:Cv:=⟨true,0,2,[.cell true 3 0],(sf [oz 0 (.alloc 130 (zz [(3, .nilf)]))] (sf [oz 1 (.bld (zz [(3, .nilf)]) [(0,1,(.f Fm)),(1,1,(.f Eu)),(2,1,(.f Et))]),on (.st 3 0 1)] .ret))⟩
def Eg:Cv:=⟨false,2,21,[.tmp 4],(sf [oz 4 (.mv kF)] (sf [mt 5 0,oz 6 (.lens 5),mt 7 1,oz 8 (.lens 7),oz 9 (.bin .geq 6 8),mt 10 9,og 11 10 (.mv 0),og 12 10 (.mv 0),og 13 10 (.lens 12),og 14 10 (.mv 1),og 15 10 (.lens 14),og 16 10 (.bin .sub 13 15),og 17 10 (.sls 11 (some 16) none),og 18 10 (.mv 1),og 19 10 (.bin .eql 17 18),oz 20 (.pick 10 19 kF),mt 4 20] .ret))⟩
def MG:Cv:=⟨false,2,8,[.tmp 4],(sf [oz 4 (.mv (.k (.nils)))] (sf [mt 5 0,mt 6 1,oz 7 (.call GK [5,6,(ki 0),(ki (-1))]),mt 4 7] .ret))⟩
def Ix:Cv:=⟨false,2,8,[.tmp 4],(sf [oz 4 (.mv (.k (.s [])))] (sf [mt 5 0,mt 6 1,oz 7 (.call CE [5,6]),mt 4 7] .ret))⟩
def Ja:Cv:=⟨false,2,8,[.tmp 4],(sf [oz 4 (.mv (ki 0))] (sf [mt 5 0,mt 6 1,oz 7 (.call CN [5,6]),mt 4 7] .ret))⟩
def RW:Cv:=⟨false,1,11,[.tmp 2],(sf [oz 1 (.box 41 17 0),oz 2 (.mv (ki 0))] (.seq (.blk 0 (sf [oz 4 (.ld true 17 1),oz 5 (.call FA [4]),oz 6 (.un .not 5),mt 3 6] (.cond 3 (sf [oz 2 (.mv (ki 0))] .ret) (sf [oz 8 (.fa 0 1),oz 9 (.ld false 1 8),oz 10 (.bin .eql 9 (ki 4)),mt 7 10] (.cond 7 (sf [oz 2 (.mv (ki 32))] .ret) .skip))))) (sf [oz 2 (.mv (ki 128))] .ret)))⟩
def iS:AC:=(sf [oz 12 (.bin .lss 11 (ki 16))] (.seq (.cond 12 .skip (.exit 0)) (.seq (.blk 1 (sf [mt 13 11,mt 5 13] (sf [mt 14 1,mt 15 5,oz 16 (.bin .mul (ki 8) 15),oz 17 (.bin .sub 14 16),oz 18 (.mnx true 17 (ki 0)),oz 19 (.mnx false 18 (ki 8)),mt 6 19] (.seq (sf [mt 20 1,oz 21 (.bin .lss 20 (ki 0))] (.cond 21 (rg false [oz 6 (.mv (ki 0))]) .skip)) (rg false [mt 22 5,oz 23 (.fa 1 2),oz 24 (.iaa 16 1 23 22),oz 25 (.ld false 1 24),mt 26 6,oz 27 (.bin .sub (ki 8) 26),oz 28 (.cvi .u64 27),oz 29 (.bin .shl (.k (.i .u8 255)) 28),oz 30 (.bin .and 25 29),oz 31 (.fa 1 2),oz 32 (.iaa 16 1 31 22),on (.st 1 32 30)]))))) (rg false [oz 33 (.bin .add 11 (ki 1)),mt 11 33]))))
def TO:Cv:=⟨false,2,35,[.cell true 17 4],(sf [oz 2 (.box 41 17 0),oz 4 (.alloc 41 Ao.zc)] (.seq (sf [oz 7 (.ld true 17 2),oz 8 (.call FA [7]),oz 9 (.un .not 8)] (.cond 9 (sf [oz 10 (.bld Ao.zc []),on (.st 17 4 10)] .ret) .skip)) (.seq (sf [oz 11 (.mv (ki 0))] (.blk 0 (.loop [1,2,4,11] iS))) (sf [oz 34 (.ld true 17 2),on (.st 17 4 34)] .ret))))⟩
def MU:Cv:=⟨false,2,8,[.tmp 4],(sf [oz 4 (.mv (ki 0))] (sf [mt 5 0,mt 6 1,oz 7 (.call DP [5,6]),mt 4 7] .ret))⟩
def RL:AC:=(sf [oz 176 (.nxt 175),oz 177 (.ext 176 0)] (.seq (.cond 177 .skip (.exit 9)) (.blk 10 (sf [oz 178 (.ext 176 1),oz 179 (.ext 176 2),mt 5 178,mt 6 179] (sf [mt 180 6,oz 181 (.bin .eql 180 (.k (.i .i32 65533)))] (.cond 181 (sf [mt 182 5,mt 4 182] .ret) .skip))))))
def RK:AC:=(.seq (sf [mt 48 12,mt 49 7,oz 50 (.lens 49),oz 51 (.bin .lss 48 50)] (.cond 51 .skip (.exit 3))) (.seq (.blk 4 (sr [mt 54 0,mt 55 9,mt 56 12,oz 57 (.bin .sub 55 56),oz 58 (.ixs 54 57),mt 59 7,mt 60 8,mt 61 12,oz 62 (.bin .sub 60 61),oz 63 (.ixs 59 62),oz 64 (.bin .neq 58 63)] (.cond 64 .stop .skip))) (rg false [mt 52 12,oz 53 (.bin .add 52 (ki 1)),mt 12 53])))
def RJ:AC:=(.seq (sf [mt 23 9,mt 24 0,oz 25 (.lens 24),oz 26 (.bin .lss 23 25)] (.cond 26 .skip (.exit 1))) (.blk 2 (.scope (.seq (sr [mt 27 0,mt 28 9,oz 29 (.ixs 27 28),mt 30 7,mt 31 8,oz 32 (.ixs 30 31),oz 33 (.bin .neq 29 32)] (.cond 33 (sr [mt 34 0,mt 35 9,oz 36 (.bin .add 35 (ki 1)),oz 37 (.sls 34 (some 36) none),mt 38 7,mt 39 8,oz 40 (.ixs 38 39),oz 41 (.call Dg [37,40]),mt 11 41] (.seq (sf [mt 42 11,oz 43 (.bin .lss 42 (ki 0))] (.cond 43 (sf [oz 4 (.mv (ki (-1)))] .ret) .skip)) (rg false [mt 44 9,mt 45 11,oz 46 (.bin .add 45 (ki 1)),oz 47 (.bin .add 44 46),mt 9 47]))) .skip)) (.seq (sf [oz 12 (.mv (ki 1))] (.blk 3 (.loop [0,7,8,9,12] RK))) (.seq (sf [mt 65 9,mt 66 8,oz 67 (.bin .sub 65 66),mt 4 67] .ret) (.seq .skip (sf [mt 68 10,oz 69 (.bin .add 68 (ki 1)),mt 10 69] (sf [mt 70 9,oz 71 (.bin .add 70 (ki 1)),mt 9 71] (sf [oz 72 (.mv kT),og 73 72 (.mv 10),og 74 72 (.mv 9),og 75 72 (.call Ib [74]),og 76 72 (.bin .gtr 73 75),oz 77 (.pick 72 76 kF),mt 78 77,og 79 78 (.mv 9),og 80 78 (.mv 0),og 81 78 (.lens 80),og 82 78 (.bin .lss 79 81),oz 83 (.pick 78 82 kF),mt 84 83,oh 85 84 (.mv kF),og 86 85 (.mv 10),og 87 85 (.mv 9),og 88 85 (.bin .shr 87 (.k (.i .u64 4))),og 89 85 (.bin .add (ki 4) 88),og 90 85 (.bin .geq 86 89),oh 91 84 (.pick 85 90 kF),oh 92 84 (.mv 91),og 93 92 (.mv 9),og 94 92 (.mv 0),og 95 92 (.lens 94),og 96 92 (.bin .lss 93 95),oh 97 84 (.pick 92 96 kF),oz 98 (.pick 84 kT 97)] (.cond 98 .stop .skip)))))))))))
def RI:AC:=(.seq (sf [mt 140 16,mt 141 7,oz 142 (.lens 141),oz 143 (.bin .lss 140 142)] (.cond 143 .skip (.exit 7))) (.seq (.blk 8 (sr [mt 146 0,mt 147 9,mt 148 16,oz 149 (.bin .sub 147 148),oz 150 (.ixs 146 149),mt 151 7,mt 152 8,mt 153 16,oz 154 (.bin .sub 152 153),oz 155 (.ixs 151 154),oz 156 (.bin .neq 150 155)] (.cond 156 (.exit 6) .skip))) (rg false [mt 144 16,oz 145 (.bin .add 144 (ki 1)),mt 16 145])))
def RH:AC:=(.seq (sf [mt 121 9,mt 122 0,oz 123 (.lens 122),oz 124 (.bin .lss 121 123)] (.cond 124 .skip (.exit 5))) (.seq (.blk 6 (sf [mt 127 0,mt 128 9,oz 129 (.ixs 127 128),mt 130 14,oz 131 (.bin .eql 129 130),mt 132 131,og 133 132 (.mv 0),og 134 132 (.mv 9),og 135 132 (.bin .sub 134 (ki 1)),og 136 132 (.ixs 133 135),og 137 132 (.mv 15),og 138 132 (.bin .eql 136 137),oz 139 (.pick 132 138 kF)] (.cond 139 (.seq (sf [oz 16 (.mv (ki 2))] (.blk 7 (.loop [0,7,8,9,14,15,16] RI))) (sf [mt 157 9,mt 158 8,oz 159 (.bin .sub 157 158),mt 4 159] .ret)) .skip))) (rg false [mt 125 9,oz 126 (.bin .add 125 (ki 1)),mt 9 126])))
def IZ:Cv:=⟨false,2,187,[.tmp 4],(sf [oz 4 (.mv (ki 0))] (.blk 0 (sf [mt 161 1,oz 162 (.bin .leq (.k (.i .i32 0)) 161),mt 163 162,og 164 163 (.mv 1),og 165 163 (.bin .lss 164 (.k (.i .i32 128))),oz 166 (.pick 163 165 kF),mt 160 166] (.cond 160 (sf [mt 167 0,mt 168 1,oz 169 (.cvi .u8 168),oz 170 (.call Dg [167,169]),mt 4 170] .ret) (sf [mt 172 1,oz 173 (.bin .eql 172 (.k (.i .i32 65533))),mt 171 173] (.cond 171 (.seq (sf [mt 174 0,oz 175 (.rng 174)] (.blk 9 (.loop [175] RL))) (sf [oz 4 (.mv (ki (-1)))] .ret)) (sf [mt 184 1,oz 185 (.call E4 [184]),oz 186 (.un .not 185),mt 183 186] (.cond 183 (sf [oz 4 (.mv (ki (-1)))] .ret) (.scope (sf [mt 17 1,oz 18 (.cvc 17),mt 7 18] (sf [mt 19 7,oz 20 (.lens 19),oz 21 (.bin .sub 20 (ki 1)),mt 8 21] (sf [mt 22 8,mt 9 22] (sf [oz 10 (.mv (ki 0))] (.seq (.blk 1 (.loop [0,7,8,9] RJ)) (.seq (sf [oz 4 (.mv (ki (-1)))] .ret) (.seq .skip (.seq (.cond kT (sf [mt 99 0,mt 100 9,mt 101 8,oz 102 (.bin .sub 100 101),oz 103 (.sls 99 (some 102) none),mt 104 1,oz 105 (.cvc 104),oz 106 (.call Lf [103,105]),mt 13 106] (sf [mt 107 13,oz 108 (.bin .geq 107 (ki 0))] (.cond 108 (sf [mt 109 9,mt 110 13,oz 111 (.bin .add 109 110),mt 112 8,oz 113 (.bin .sub 111 112),mt 4 113] .ret) .skip))) (.scope (sf [mt 114 7,mt 115 8,oz 116 (.ixs 114 115),mt 14 116] (sf [mt 117 7,mt 118 8,oz 119 (.bin .sub 118 (ki 1)),oz 120 (.ixs 117 119),mt 15 120] (.seq .skip (.blk 5 (.loop [0,7,8,9,14,15] RH))))))) (sf [oz 4 (.mv (ki (-1)))] .ret))))))))))))))))))⟩
def F6:Cv:=⟨false,1,5,[.tmp 2],(sf [oz 2 (.mv kF)] (sf [mt 3 0,oz 4 (.bin .gtr 3 (ki 8)),mt 2 4] .ret))⟩
def OO:AC:=(.seq (sf [mt 6 4,mt 7 0,oz 8 (.lens 7),oz 9 (.bin .lss 6 8)] (.cond 9 .skip (.exit 0))) (.seq (.blk 1 (sf [mt 12 0,mt 13 4,oz 14 (.ixs 12 13),mt 5 14] (.seq (sf [mt 15 5,oz 16 (.bin .geq 15 (.k (.i .u8 128)))] (.cond 16 (sf [oz 17 (.ld true 256 2),on (.st 256 2 17),oz 3 (.mv kF)] .ret) .skip)) (rg false [mt 18 5,oz 19 (.iaa 256 1 2 18),on (.st 1 19 kT)])))) (rg false [mt 10 4,oz 11 (.bin .add 10 (ki 1)),mt 4 11])))
def Hz:Cv:=⟨false,1,21,[.cell true 256 2, .tmp 3],(sf [oz 2 (.alloc 177 (aw 256 du).zc),oz 3 (.mv kF)] (.seq (sf [oz 4 (.mv (ki 0))] (.blk 0 (.loop [0,2,4] OO))) (sf [oz 20 (.ld true 256 2),on (.st 256 2 20),oz 3 (.mv kT)] .ret)))⟩
def EY:Cv:=⟨false,2,10,[.tmp 4],(sf [oz 4 (.mv kF)] (sf [mt 5 0,mt 6 1,oz 7 (.nilc 5),oz 8 (.iaa 256 1 7 6),oz 9 (.ld false 1 8),mt 4 9] .ret))⟩
def S8:Cv:=⟨true,2,14,[.tmp 4],(sf [oz 4 (.mv (ki 0))] (sf [mt 6 1,mt 7 0,oz 8 (.call IJ [7]),mt 5 8,oz 9 (.ext 5 0),oz 10 (.ext 5 1),oz 11 (.nilc 6),oz 12 (.fa 1 11),on (.st 32 12 9),mt 4 10] (sf [mt 13 4,mt 4 13] .ret)))⟩
def ML:Cv:=⟨false,1,19,[.cell true 32 2, .tmp 3],(sf [oz 2 (.alloc 23 (aw 32 bi).zc),oz 3 (.mv (ki 0))] (sf [mt 7 0,oz 8 (.call J9 [7]),mt 6 8,oz 9 (.ext 6 0),oz 10 (.ext 6 1),mt 4 9,mt 5 10] (.seq (sf [mt 11 5,oz 12 (.bin .neq 11 (ki 0))] (.cond 12 (sf [oz 13 (.bld (aw 32 bi).zc []),mt 14 5,on (.st 32 2 13),mt 3 14] .ret) .skip)) (sf [mt 15 4,oz 16 (.call R2 [15]),oz 17 (.ext 16 0),oz 18 (.ext 16 1),on (.st 32 2 17),mt 3 18] .ret))))⟩
def MQ:Cv:=⟨false,1,7,[.tmp 2, .tmp 3],(sf [oz 1 (.box 55 70 0),oz 2 (.mv (.k (.s []))),oz 3 (.mv kF)] (sf [oz 4 (.fa 1 1),oz 5 (.ld true 32 4),oz 6 (.call Pk [5]),mt 2 6,oz 3 (.mv kT)] .ret))⟩
def Wc:Cv:=⟨false,1,5,[.tmp 2],(sf [oz 1 (.box 23 32 0),oz 2 (.mv (.k (.s [])))] (sf [oz 3 (.sla 32 1 1 none none),oz 4 (.call J8 [3]),mt 2 4] .ret))⟩
def MP:Cv:=⟨false,1,6,[.cell true 70 2],(sf [oz 1 (.box 55 70 0),oz 2 (.alloc 55 Ae.zc)] (sf [oz 3 (.bld (aw 32 bi).zc []),oz 4 (.fa 1 1),on (.st 32 4 3)] (sf [oz 5 (.ld true 70 1),on (.st 70 2 5)] .ret)))⟩
def S9:Cv:=⟨true,2,14,[.tmp 4],(sf [oz 4 (.mv (ki 0))] (sf [mt 6 1,mt 7 0,oz 8 (.call Ic [7]),mt 5 8,oz 9 (.ext 5 0),oz 10 (.ext 5 1),oz 11 (.nilc 6),oz 12 (.fa 34 11),on (.st 18 12 9),mt 4 10] (sf [mt 13 4,mt 4 13] .ret)))⟩
def LG:Cv:=⟨false,1,46,[.cell true 18 2, .tmp 3],(sf [oz 2 (.alloc 43 Aw.zc),oz 3 (.mv (ki 0))] (sf [mt 11 0,oz 12 (.call Hx [11]),mt 10 12,oz 13 (.ext 10 0),oz 14 (.ext 10 1),oz 15 (.ext 10 2),mt 4 13,mt 5 14,mt 6 15] (.seq (sf [mt 16 6,oz 17 (.un .not 16)] (.cond 17 (sf [oz 18 (.bld Aw.zc []),on (.st 18 2 18),oz 3 (.mv (ki 5))] .ret) .skip)) (sf [mt 20 4,oz 21 (.call Ju [20]),mt 19 21,oz 22 (.ext 19 0),oz 23 (.ext 19 1),oz 7 (.alloc 41 Ao.zc),on (.st 17 7 22),mt 8 23] (.seq (sf [mt 24 8,oz 25 (.bin .neq 24 (ki 0))] (.cond 25 (sf [oz 26 (.bld Aw.zc []),mt 27 8,on (.st 18 2 26),mt 3 27] .ret) .skip)) (sf [mt 29 5,oz 30 (.call Fq [29,(.k (.i .u64 65535))]),mt 28 30,oz 31 (.ext 28 0),oz 32 (.ext 28 1),mt 9 31,mt 8 32] (.seq (.blk 0 (sf [mt 34 8,oz 35 (.bin .neq 34 (ki 0)),mt 33 35] (.cond 33 (sf [oz 36 (.bld Aw.zc []),mt 37 8,on (.st 18 2 36),mt 3 37] .ret) (sf [mt 39 9,oz 40 (.bin .eql 39 (.k (.i .u64 0))),mt 38 40] (.cond 38 (sf [oz 41 (.bld Aw.zc []),on (.st 18 2 41),oz 3 (.mv (ki 6))] .ret) .skip))))) (sf [oz 42 (.ld true 17 7),mt 43 9,oz 44 (.cvi .i64 43),oz 45 (.bld Aw.zc [(0,17,42),(17,1,44)]),on (.st 18 2 45),oz 3 (.mv (ki 0))] .ret))))))))⟩
def MS:Cv:=⟨false,1,10,[.tmp 2, .tmp 3],(sf [oz 1 (.box 55 70 0),oz 2 (.mv (.k (.s []))),oz 3 (.mv kF)] (sr [oz 4 (.fa 34 1),oz 5 (.ld true 18 4),oz 6 (.call IK [5]),oz 7 (.fa 34 1),oz 8 (.ld true 18 7),oz 9 (.call Ff [8]),mt 2 6,mt 3 9] .ret))⟩
def MM:Cv:=⟨false,1,28,[.tmp 2],(sf [oz 1 (.box 43 18 0),oz 2 (.mv (.k (.s [])))] (.seq (sf [oz 4 (.ld true 18 1),oz 5 (.call Ff [4]),oz 6 (.un .not 5)] (.cond 6 (sf [oz 2 (.mv (.k (.s [])))] .ret) .skip)) (sf [oz 7 (.fa 17 1),oz 8 (.ld false 1 7),oz 9 (.cvi .u64 8),oz 10 (.call Fo [9]),mt 3 10] (.seq (sf [oz 11 (.fa 0 1),oz 12 (.ld true 17 11),oz 13 (.call GA [12]),oz 14 (.bin .gtr 13 (ki 32))] (.cond 14 (sf [oz 15 (.fa 0 1),oz 16 (.ld true 17 15),oz 17 (.call IP [16]),oz 18 (.bin .add (.k (.s [91])) 17),oz 19 (.bin .add 18 (.k (.s [93,58]))),mt 20 3,oz 21 (.bin .add 19 20),mt 2 21] .ret) .skip)) (sf [oz 22 (.fa 0 1),oz 23 (.ld true 17 22),oz 24 (.call IP [23]),oz 25 (.bin .add 24 (.k (.s [58]))),mt 26 3,oz 27 (.bin .add 25 26),mt 2 27] .ret)))))⟩
def MR:Cv:=⟨false,1,6,[.cell true 70 2],(sf [oz 1 (.box 55 70 0),oz 2 (.alloc 55 Ae.zc)] (sf [oz 3 (.bld Aw.zc []),oz 4 (.fa 34 1),on (.st 18 4 3)] (sf [oz 5 (.ld true 70 1),on (.st 70 2 5)] .ret)))⟩
def Pz:Cv:=⟨true,2,14,[.tmp 4],(sf [oz 4 (.mv (ki 0))] (sf [mt 6 1,mt 7 0,oz 8 (.call Mb [7]),mt 5 8,oz 9 (.ext 5 0),oz 10 (.ext 5 1),oz 11 (.nilc 6),oz 12 (.fa 52 11),on (.st 18 12 9),mt 4 10] (sf [mt 13 4,mt 4 13] .ret)))⟩
def RV:Cv:=⟨false,1,49,[.cell true 18 2, .tmp 3],(sf [oz 2 (.alloc 51 Al.zc),oz 3 (.mv (ki 0))] (sf [mt 11 0,oz 12 (.call F4 [11,(.k (.i .u8 47))]),mt 10 12,oz 13 (.ext 10 0),oz 14 (.ext 10 1),oz 15 (.ext 10 2),mt 4 13,mt 5 14,mt 6 15] (sf [mt 17 4,oz 18 (.call Ju [17]),mt 16 18,oz 19 (.ext 16 0),oz 20 (.ext 16 1),oz 7 (.alloc 41 Ao.zc),on (.st 17 7 19),mt 8 20] (.seq (.blk 0 (sf [mt 22 8,oz 23 (.bin .neq 22 (ki 0)),mt 21 23] (.cond 21 (sf [oz 24 (.bld Al.zc []),mt 25 8,on (.st 18 2 24),mt 3 25] .ret) (sf [mt 27 6,oz 28 (.un .not 27),mt 26 28] (.cond 26 (sf [oz 29 (.ld true 17 7),oz 30 (.call Ma [29]),on (.st 18 2 30),oz 3 (.mv (ki 0))] .ret) .skip))))) (sf [mt 32 5,oz 33 (.ld true 17 7),oz 34 (.call GA [33]),oz 35 (.cvi .u64 34),oz 36 (.call Fq [32,35]),mt 31 36,oz 37 (.ext 31 0),oz 38 (.ext 31 1),mt 9 37,mt 8 38] (.seq (sf [mt 39 8,oz 40 (.bin .neq 39 (ki 0))] (.cond 40 (sf [oz 41 (.bld Al.zc []),mt 42 8,on (.st 18 2 41),mt 3 42] .ret) .skip)) (sf [oz 43 (.ld true 17 7),mt 44 9,oz 45 (.cvi .i64 44),oz 46 (.call LA [43,45]),oz 47 (.ext 46 0),oz 48 (.ext 46 1),on (.st 18 2 47),mt 3 48] .ret)))))))⟩
def KV:Cv:=⟨false,1,10,[.tmp 2, .tmp 3],(sf [oz 1 (.box 55 70 0),oz 2 (.mv (.k (.s []))),oz 3 (.mv kF)] (sr [oz 4 (.fa 52 1),oz 5 (.ld true 18 4),oz 6 (.call Nv [5]),oz 7 (.fa 52 1),oz 8 (.ld true 18 7),oz 9 (.call HL [8]),mt 2 6,mt 3 9] .ret))⟩
def TL:Cv:=⟨false,1,15,[.tmp 2],(sf [oz 1 (.box 51 18 0),oz 2 (.mv (.k (.s [])))] (.seq (sf [oz 3 (.ld true 18 1),oz 4 (.call HL [3]),oz 5 (.un .not 4)] (.cond 5 (sf [oz 2 (.mv (.k (.s [])))] .ret) .skip)) (sr [oz 6 (.fa 0 1),oz 7 (.ld true 17 6),oz 8 (.call IP [7]),oz 9 (.bin .add 8 (.k (.s [47]))),oz 10 (.fa 17 1),oz 11 (.ld false 1 10),oz 12 (.cvi .u64 11),oz 13 (.call Fo [12]),oz 14 (.bin .add 9 13),mt 2 14] .ret)))⟩
def KU:Cv:=⟨false,1,6,[.cell true 70 2],(sf [oz 1 (.box 55 70 0),oz 2 (.alloc 55 Ae.zc)] (sf [oz 3 (.bld Al.zc []),oz 4 (.fa 52 1),on (.st 18 4 3)] (sf [oz 5 (.ld true 70 1),on (.st 70 2 5)] .ret)))⟩
def Py:Cv:=⟨true,4,27,[.tmp 6],(sf [oz 6 (.mv (ki 0))] (sf [mt 10 0,oz 11 (.ld false 1 2),oz 12 (.call Fq [10,11]),mt 9 12,oz 13 (.ext 9 0),oz 14 (.ext 9 1),mt 7 13,mt 8 14] (.seq (sf [mt 15 8,oz 16 (.bin .eql 15 (ki 0)),mt 17 16,og 18 17 (.mv 7),og 19 17 (.ld false 1 3),og 20 17 (.bin .lss 18 19),oz 21 (.pick 17 20 kF)] (.cond 21 (rg false [oz 8 (.mv (ki 6))]) .skip)) (sf [mt 22 1,mt 23 7,oz 24 (.nilc 22),oz 25 (.fa 33 24),on (.st 1 25 23)] (sf [mt 26 8,mt 6 26] .ret)))))⟩
def O2:Cv:=⟨false,2,40,[.tmp 4, .tmp 5],(sf [oz 4 (.mv (.k (.i .u64 0))),oz 5 (.mv (ki 0))] (.seq (sf [mt 8 0,oz 9 (.bin .eql 8 (.k (.s []))),mt 10 9,oh 11 10 (.mv 0),oh 12 10 (.call Id [11]),oh 13 10 (.mv 0),oh 14 10 (.lens 13),oh 15 10 (.bin .lss 12 14),oz 16 (.pick 10 kT 15),mt 17 16,oh 18 17 (.mv 0),oh 19 17 (.lens 18),oh 20 17 (.bin .gtr 19 (ki 1)),oh 21 17 (.mv 20),og 22 21 (.mv 0),og 23 21 (.ixs 22 (ki 0)),og 24 21 (.bin .eql 23 (.k (.i .u8 48))),oh 25 17 (.pick 21 24 kF),oz 26 (.pick 17 kT 25)] (.cond 26 (sf [oz 4 (.mv (.k (.i .u64 0))),oz 5 (.mv (ki 5))] .ret) .skip)) (sf [mt 28 0,oz 29 (.call Gy [28,(ki 10),(ki 64)]),mt 27 29,oz 30 (.ext 27 0),oz 31 (.ext 27 1),mt 6 30,mt 7 31] (.seq (sf [mt 32 7,oz 33 (.isni true 32),mt 34 33,oh 35 34 (.mv 6),oh 36 34 (.mv 1),oh 37 34 (.bin .gtr 35 36),oz 38 (.pick 34 kT 37)] (.cond 38 (sf [oz 4 (.mv (.k (.i .u64 0))),oz 5 (.mv (ki 6))] .ret) .skip)) (sf [mt 39 6,mt 4 39,oz 5 (.mv (ki 0))] .ret)))))⟩
def Px:Cv:=⟨true,3,19,[.tmp 4, .tmp 5],(sf [oz 3 (.box 55 70 0),oz 4 (.mv (.k (.s []))),oz 5 (.mv kF)] (sr [oz 6 (.fa 33 3),oz 7 (.ld false 1 6),oz 8 (.call Fo [7]),oz 9 (.fa 33 3),oz 10 (.ld false 1 9),oz 11 (.ld false 1 1),oz 12 (.bin .geq 10 11),mt 13 12,og 14 13 (.fa 33 3),og 15 13 (.ld false 1 14),og 16 13 (.ld false 1 2),og 17 13 (.bin .leq 15 16),oz 18 (.pick 13 17 kF),mt 4 8,mt 5 18] .ret))⟩
def O1:Cv:=⟨false,1,5,[.tmp 2],(sf [oz 2 (.mv (.k (.s [])))] (sf [mt 3 0,oz 4 (.call Ga [3,(ki 10)]),mt 2 4] .ret))⟩
def KT:Cv:=⟨false,1,5,[.cell true 70 2],(sf [oz 1 (.box 55 70 0),oz 2 (.alloc 55 Ae.zc)] (sf [oz 3 (.fa 33 1),on (.st 1 3 (.k (.i .u64 0)))] (sf [oz 4 (.ld true 70 1),on (.st 70 2 4)] .ret)))⟩
def TJ:Cv:=⟨true,2,7,[.tmp 4],(sf [oz 4 (.mv (ki 0))] (.seq (sf [mt 5 0,oz 6 (.bin .neq 5 (.k (.s [116,114,117,101])))] (.cond 6 (sf [oz 4 (.mv (ki 5))] .ret) .skip)) (sf [oz 4 (.mv (ki 0))] .ret)))⟩
def Oy:Cv:=⟨false,1,4,[.tmp 2, .tmp 3],(sf [oz 1 (.box 55 70 0),oz 2 (.mv (.k (.s []))),oz 3 (.mv kF)] (sf [oz 2 (.mv (.k (.s [116,114,117,101]))),oz 3 (.mv kT)] .ret))⟩
def Ox:Cv:=⟨false,1,4,[.cell true 70 2],(sf [oz 1 (.box 55 70 0),oz 2 (.alloc 55 Ae.zc)] (sf [oz 3 (.ld true 70 1),on (.st 70 2 3)] .ret))⟩
def SO:AC:=(.seq (sf [mt 34 10,mt 35 3,oz 36 (.bin .lss 34 35)] (.cond 36 .skip (.exit 0))) (.blk 1 (sf [mt 37 0,mt 38 1,oz 39 (.call FH [37,38]),mt 11 39] (.seq (sf [mt 40 11,oz 41 (.bin .lss 40 (ki 0))] (.cond 41 (.exit 0) .skip)) (sf [mt 42 9,mt 43 10,mt 44 0,mt 45 11,mt 46 2,oz 47 (.bin .add 45 46),oz 48 (.sls 44 none (some 47)),oz 49 (.ias 1 42 43),on (.st 1 49 48)] (sf [mt 50 0,mt 51 11,mt 52 1,oz 53 (.lens 52),oz 54 (.bin .add 51 53),oz 55 (.sls 50 (some 54) none),mt 0 55] (rg false [mt 56 10,oz 57 (.bin .add 56 (ki 1)),mt 10 57])))))))
def JU:Cv:=⟨false,4,66,[.tmp 8],(sf [oz 8 (.mv (.k (.nils)))] (.seq (sf [mt 12 3,oz 13 (.bin .eql 12 (ki 0))] (.cond 13 (sf [oz 8 (.mv (.k (.nils)))] .ret) .skip)) (.seq (sf [mt 14 1,oz 15 (.bin .eql 14 (.k (.s [])))] (.cond 15 (sf [mt 16 0,mt 17 3,oz 18 (.call Hr [16,17]),mt 8 18] .ret) .skip)) (.seq (sf [mt 19 3,oz 20 (.bin .lss 19 (ki 0))] (.cond 20 (rg false [mt 21 0,mt 22 1,oz 23 (.call IF [21,22]),oz 24 (.bin .add 23 (ki 1)),mt 3 24]) .skip)) (sf [mt 25 3,mt 26 0,oz 27 (.lens 26),oz 28 (.bin .add 27 (ki 1)),oz 29 (.mnx false 25 28),mt 3 29] (sf [mt 30 3,oz 31 (.mks 9 1 16 Au.zc 30 30),mt 9 31] (sf [mt 32 3,oz 33 (.bin .sub 32 (ki 1)),mt 3 33] (sf [oz 10 (.mv (ki 0))] (.seq (.blk 0 (.loop [0,1,2,3,9,10] SO)) (sf [mt 58 9,mt 59 10,mt 60 0,oz 61 (.ias 1 58 59),on (.st 1 61 60)] (sf [mt 62 9,mt 63 10,oz 64 (.bin .add 63 (ki 1)),oz 65 (.sll 1 62 none (some 64)),mt 8 65] .ret)))))))))))⟩
def DR:Cv:=⟨false,2,16,[.tmp 4],(sf [oz 4 (.mv (.k (.s [])))] (.seq (sf [mt 5 0,mt 6 1,oz 7 (.call Co [5,6])] (.cond 7 (sf [mt 8 0,mt 9 0,oz 10 (.lens 9),mt 11 1,oz 12 (.lens 11),oz 13 (.bin .sub 10 12),oz 14 (.sls 8 none (some 13)),mt 4 14] .ret) .skip)) (sf [mt 15 0,mt 4 15] .ret)))⟩
def Ef:Cv:=⟨false,2,8,[.tmp 4],(sf [oz 4 (.mv (ki 0))] (sf [mt 5 0,mt 6 1,oz 7 (.call C8 [5,6]),mt 4 7] .ret))⟩
def GC:Cv:=⟨false,1,17,[.tmp 2],(sf [oz 2 (.mv kF)] (.seq (.blk 0 (sf [mt 4 0,oz 5 (.bin .leq (.k (.i .i32 0)) 4),mt 6 5,og 7 6 (.mv 0),og 8 6 (.bin .lss 7 (.k (.i .i32 55296))),oz 9 (.pick 6 8 kF),mt 3 9] (.cond 3 (sf [oz 2 (.mv kT)] .ret) (sf [mt 11 0,oz 12 (.bin .lss (.k (.i .i32 57343)) 11),mt 13 12,og 14 13 (.mv 0),og 15 13 (.bin .leq 14 (.k (.i .i32 1114111))),oz 16 (.pick 13 15 kF),mt 10 16] (.cond 10 (sf [oz 2 (.mv kT)] .ret) .skip))))) (sf [oz 2 (.mv kF)] .ret)))⟩
def Ot:Cv:=⟨false,1,6,[.tmp 2],(sf [oz 2 (.mv (ki 0))] (sf [mt 3 0,oz 4 (.bin .add 3 (ki 16)),oz 5 (.bin .quo 4 (ki 8)),mt 2 5] .ret))⟩
def X7:AC:=(.seq (sf [mt 14 5,mt 15 0,oz 16 (.lens 15),oz 17 (.bin .lss 14 16)] (.cond 17 .skip (.exit 0))) (.seq (.blk 1 (sf [mt 21 0,mt 22 5,oz 23 (.ixs 21 22),oz 24 (.call GR [23]),mt 20 24,oz 25 (.ext 20 0),oz 26 (.ext 20 1),mt 6 25,mt 7 26] (sf [mt 28 0,mt 29 5,oz 30 (.bin .add 29 (ki 1)),oz 31 (.ixs 28 30),oz 32 (.call GR [31]),mt 27 32,oz 33 (.ext 27 0),oz 34 (.ext 27 1),mt 8 33,mt 9 34] (.seq (sf [mt 35 7,oz 36 (.un .not 35),mt 37 36,oh 38 37 (.mv 9),oh 39 37 (.un .not 38),oz 40 (.pick 37 kT 39)] (.cond 40 (sf [oz 2 (.mv (.k (.nils))),oz 3 (.mv (ki 5))] .ret) .skip)) (rg false [mt 41 4,mt 42 6,oz 43 (.bin .shl 42 (.k (.i .u64 4))),mt 44 8,oz 45 (.bin .or 43 44),oz 46 (.cvi .u8 45),oz 47 (.bll 1 (az 1 bi.zc) [(0,46)]),oz 48 (.app 5 1 1 41 47),mt 4 48]))))) (rg false [mt 18 5,oz 19 (.bin .add 18 (ki 2)),mt 5 19])))
def Ov:Cv:=⟨false,1,50,[.tmp 2, .tmp 3],(sf [oz 2 (.mv (.k (.nils))),oz 3 (.mv (ki 0))] (.seq (sf [mt 10 0,oz 11 (.lens 10),oz 12 (.bin .rem 11 (ki 2)),oz 13 (.bin .neq 12 (ki 0))] (.cond 13 (sf [oz 2 (.mv (.k (.nils))),oz 3 (.mv (ki 5))] .ret) .skip)) (sf [oz 4 (.mv (.k (.nils)))] (.seq (sf [oz 5 (.mv (ki 0))] (.blk 0 (.loop [0,4,5] X7))) (sf [mt 49 4,mt 2 49,oz 3 (.mv (ki 0))] .ret)))))⟩
def YV:Cv:=⟨false,1,17,[.cell true 32 2, .tmp 3],(sf [oz 2 (.alloc 23 (aw 32 bi).zc),oz 3 (.mv (ki 0))] (.seq (.blk 0 (sf [mt 5 0,oz 6 (.len 5),oz 7 (.bin .lss 6 (ki 32)),mt 4 7] (.cond 4 (sf [oz 8 (.bld (aw 32 bi).zc []),on (.st 32 2 8),oz 3 (.mv (ki 3))] .ret) (sf [mt 10 0,oz 11 (.len 10),oz 12 (.bin .gtr 11 (ki 32)),mt 9 12] (.cond 9 (sf [oz 13 (.bld (aw 32 bi).zc []),on (.st 32 2 13),oz 3 (.mv (ki 4))] .ret) .skip))))) (sf [mt 14 0,oz 15 (.s2a 32 1 14),oz 16 (.ld true 32 15),on (.st 32 2 16),oz 3 (.mv (ki 0))] .ret)))⟩
def X6:AC:=(sf [oz 9 (.bin .lss 8 7)] (.seq (.cond 9 .skip (.exit 0)) (.seq (.blk 1 (sf [oz 10 (.ias 1 6 8),oz 11 (.ld false 1 10),mt 5 11] (sf [mt 12 5,oz 13 (.bin .shr 12 (.k (.i .u64 4))),oz 14 (.ixs (.k (.s [48,49,50,51,52,53,54,55,56,57,97,98,99,100,101,102])) 13),oz 15 (.call Do [3,14])] (rg false [mt 16 5,oz 17 (.bin .and 16 (.k (.i .u8 15))),oz 18 (.ixs (.k (.s [48,49,50,51,52,53,54,55,56,57,97,98,99,100,101,102])) 17),oz 19 (.call Do [3,18])])))) (rg false [oz 20 (.bin .add 8 (ki 1)),mt 8 20]))))
def Ou:Cv:=⟨false,1,22,[.tmp 2],(sf [oz 2 (.mv (.k (.s [])))] (sf [oz 3 (.alloc 119 (zz [(1, .nilp),(1, .nils)]))] (.seq (sf [mt 6 0,oz 7 (.len 6),oz 8 (.mv (ki 0))] (.blk 0 (.loop [3,6,7,8] X6))) (sf [oz 21 (.call Db [3]),mt 2 21] .ret))))⟩
def KR:Cv:=⟨false,1,35,[.tmp 2, .tmp 3, .tmp 4],(sf [oz 2 (.mv (.k (.s []))),oz 3 (.mv (.k (.s []))),oz 4 (.mv kF)] (.seq (sf [mt 11 0,oz 12 (.call Gx [11,(.k (.s [91]))]),mt 10 12,oz 13 (.ext 10 0),oz 14 (.ext 10 1),mt 5 13,mt 6 14] (sf [mt 15 6] (.cond 15 (sf [mt 17 5,oz 18 (.call K5 [17,(.k (.s [93,58]))]),mt 16 18,oz 19 (.ext 16 0),oz 20 (.ext 16 1),oz 21 (.ext 16 2),mt 7 19,mt 8 20,mt 9 21] (sf [mt 22 7,mt 23 8,mt 24 9,mt 25 24,og 26 25 (.mv 7),og 27 25 (.call Eo [26,(.k (.s [58]))]),oz 28 (.pick 25 27 kF),mt 2 22,mt 3 23,mt 4 28] .ret)) .skip))) (sf [mt 29 0,oz 30 (.ixs (.k (.s [58])) (ki 0)),oz 31 (.call F4 [29,30]),oz 32 (.ext 31 0),oz 33 (.ext 31 1),oz 34 (.ext 31 2),mt 2 32,mt 3 33,mt 4 34] .ret)))⟩
def RY:Cv:=⟨false,1,40,[.cell true 17 2, .tmp 3],(sf [oz 2 (.alloc 41 Ao.zc),oz 3 (.mv (ki 0))] (.seq (sf [mt 12 0,oz 13 (.call F4 [12,(.k (.i .u8 58))]),mt 11 13,oz 14 (.ext 11 0),oz 15 (.ext 11 1),oz 16 (.ext 11 2),mt 4 14,mt 5 15,mt 6 16] (sf [mt 17 6] (.cond 17 (sf [mt 19 0,oz 20 (.call KF [19]),mt 18 20,oz 21 (.ext 18 0),oz 22 (.ext 18 1),oz 7 (.alloc 39 (aw 16 bi).zc),on (.st 16 7 21),mt 8 22] (.seq (sf [mt 23 8,oz 24 (.bin .neq 23 (ki 0))] (.cond 24 (sf [oz 25 (.bld Ao.zc []),mt 26 8,on (.st 17 2 25),mt 3 26] .ret) .skip)) (sf [oz 27 (.ld true 16 7),oz 28 (.call Pm [27]),on (.st 17 2 28),oz 3 (.mv (ki 0))] .ret))) .skip))) (sf [mt 30 0,oz 31 (.call Jr [30]),mt 29 31,oz 32 (.ext 29 0),oz 33 (.ext 29 1),oz 9 (.alloc 153 (aw 4 bi).zc),on (.st 4 9 32),mt 10 33] (.seq (sf [mt 34 10,oz 35 (.bin .neq 34 (ki 0))] (.cond 35 (sf [oz 36 (.bld Ao.zc []),mt 37 10,on (.st 17 2 36),mt 3 37] .ret) .skip)) (sf [oz 38 (.ld true 4 9),oz 39 (.call KG [38]),on (.st 17 2 39),oz 3 (.mv (ki 0))] .ret)))))⟩
def TN:Cv:=⟨false,1,19,[.tmp 2],(sf [oz 1 (.box 41 17 0),oz 2 (.mv (.k (.s [])))] (.seq (.blk 0 (sf [oz 4 (.ld true 17 1),oz 5 (.call FA [4]),oz 6 (.un .not 5),mt 3 6] (.cond 3 (sf [oz 2 (.mv (.k (.s [])))] .ret) (sf [oz 8 (.fa 0 1),oz 9 (.ld false 1 8),oz 10 (.bin .eql 9 (ki 4)),mt 7 10] (.cond 7 (sf [oz 11 (.fa 1 1),oz 12 (.sla 16 1 11 none (some (ki 4))),oz 13 (.s2a 4 1 12),oz 14 (.ld true 4 13),oz 15 (.call Nu [14]),mt 2 15] .ret) .skip))))) (sf [oz 16 (.fa 1 1),oz 17 (.ld true 16 16),oz 18 (.call LZ [17]),mt 2 18] .ret)))⟩
def RT:Cv:=⟨false,1,13,[.cell true 18 2],(sf [oz 1 (.box 41 17 0),oz 2 (.alloc 51 Al.zc)] (.seq (.regd [oz 6 (.ld true 17 1),oz 7 (.ld true 17 1),oz 8 (.call GA [7]),oz 9 (.call LA [6,8]),mt 5 9,oz 10 (.ext 5 0),oz 11 (.ext 5 1),oz 3 (.alloc 51 Al.zc),on (.st 18 3 10),mt 4 11] [some (0,1),some (0,1),some (0,1),some (0,1),some (0,1),some (0,1),some (0,2),none,none,some (2,2)]) (sf [oz 12 (.ld true 18 3),on (.st 18 2 12)] .ret)))⟩
def UO:AC:=(sf [oz 7 (.nxt 6),oz 8 (.ext 7 0)] (.seq (.cond 8 .skip (.exit 0)) (.blk 1 (sf [oz 9 (.ext 7 1),oz 10 (.ext 7 2),mt 3 9,mt 4 10] (sf [mt 11 4,oz 12 (.bin .lss 11 (.k (.i .i32 48))),mt 13 12,oh 14 13 (.mv 4),oh 15 13 (.bin .gtr 14 (.k (.i .i32 57))),oz 16 (.pick 13 kT 15)] (.cond 16 (sf [mt 17 3,mt 2 17] .ret) .skip))))))
def LH:Cv:=⟨false,1,20,[.tmp 2],(sf [oz 2 (.mv (ki 0))] (.seq (sf [mt 5 0,oz 6 (.rng 5)] (.blk 0 (.loop [0,6] UO))) (sf [mt 18 0,oz 19 (.lens 18),mt 2 19] .ret)))⟩
def Iy:Cv:=⟨false,2,8,[.tmp 4],(sf [oz 4 (.mv (.k (.s [])))] (sf [mt 5 0,mt 6 1,oz 7 (.call Dp [5,6]),mt 4 7] .ret))⟩
def T7:AC:=(.seq (sf [mt 22 7,mt 23 1,oz 24 (.bin .sub 23 (ki 1)),oz 25 (.bin .lss 22 24)] (.cond 25 .skip (.exit 0))) (.seq (.blk 1 (sf [mt 29 0,oz 30 (.call CD [29]),mt 28 30,oz 31 (.ext 28 0),oz 32 (.ext 28 1),mt 8 31,mt 9 32] (sf [mt 33 6,mt 34 7,mt 35 0,mt 36 9,oz 37 (.sls 35 none (some 36)),oz 38 (.ias 1 33 34),on (.st 1 38 37)] (rg false [mt 39 0,mt 40 9,oz 41 (.sls 39 (some 40) none),mt 0 41])))) (rg false [mt 26 7,oz 27 (.bin .add 26 (ki 1)),mt 7 27])))
def KO:Cv:=⟨false,2,50,[.tmp 4],(sf [oz 4 (.mv (.k (.nils)))] (sf [mt 10 0,oz 11 (.call Cn [10]),mt 5 11] (.seq (sf [mt 12 1,oz 13 (.bin .lss 12 (ki 0)),mt 14 13,oh 15 14 (.mv 1),oh 16 14 (.mv 5),oh 17 14 (.bin .gtr 15 16),oz 18 (.pick 14 kT 17)] (.cond 18 (rg false [mt 19 5,mt 1 19]) .skip)) (sf [mt 20 1,oz 21 (.mks 9 1 16 Au.zc 20 20),mt 6 21] (.seq (sf [oz 7 (.mv (ki 0))] (.blk 0 (.loop [0,1,6,7] T7))) (.seq (sf [mt 42 1,oz 43 (.bin .gtr 42 (ki 0))] (.cond 43 (rg false [mt 44 6,mt 45 1,oz 46 (.bin .sub 45 (ki 1)),mt 47 0,oz 48 (.ias 1 44 46),on (.st 1 48 47)]) .skip)) (sf [mt 49 6,mt 4 49] .ret)))))))⟩
def VU:AC:=(.blk 1 (sf [mt 20 0,mt 21 1,oz 22 (.call FH [20,21]),mt 6 22] (.seq (sf [mt 23 6,oz 24 (.bin .eql 23 (ki (-1)))] (.cond 24 (sf [mt 25 5,mt 4 25] .ret) .skip)) (sf [mt 26 5,oz 27 (.bin .add 26 (ki 1)),mt 5 27] (rg false [mt 28 0,mt 29 6,mt 30 1,oz 31 (.lens 30),oz 32 (.bin .add 29 31),oz 33 (.sls 28 (some 32) none),mt 0 33])))))
def MI:Cv:=⟨false,2,34,[.tmp 4],(sf [oz 4 (.mv (ki 0))] (.seq (sf [mt 7 1,oz 8 (.lens 7),oz 9 (.bin .eql 8 (ki 0))] (.cond 9 (sf [mt 10 0,oz 11 (.call Cn [10]),oz 12 (.bin .add 11 (ki 1)),mt 4 12] .ret) .skip)) (.seq (sf [mt 13 1,oz 14 (.lens 13),oz 15 (.bin .eql 14 (ki 1))] (.cond 15 (sf [mt 16 0,mt 17 1,oz 18 (.ixs 17 (ki 0)),oz 19 (.call De [16,18]),mt 4 19] .ret) .skip)) (sf [oz 5 (.mv (ki 0))] (.blk 0 (.loop [0,1,5] VU))))))⟩
def PV:Cv:=⟨false,1,11,[.tmp 2, .tmp 3],(sf [oz 2 (.mv (.k (.i .u16 0))),oz 3 (.mv kF)] (sf [mt 5 0,oz 6 (.call Dg [(.k (.s [48,49,50,51,52,53,54,55,56,57,97,98,99,100,101,102])),5]),mt 4 6] (sf [mt 7 4,oz 8 (.cvi .u16 7),mt 9 4,oz 10 (.bin .geq 9 (ki 0)),mt 2 8,mt 3 10] .ret)))⟩
def Hk:Cv:=⟨false,2,17,[.tmp 4],(sf [oz 4 (.mv (.k (.nili)))] (sf [mt 5 0,oz 6 (.call C5 [5])] (sf [mt 7 0,mt 8 0,oz 9 (.nilc 8),oz 10 (.fa 1 9),oz 11 (.ld false 1 10),mt 12 1,oz 13 (.bll 1 (az 1 bi.zc) [(0,12)]),oz 14 (.app 5 1 1 11 13),oz 15 (.nilc 7),oz 16 (.fa 1 15),on (.st 1 16 14)] (sf [oz 4 (.mv (.k (.nili)))] .ret))))⟩
def Jd:Cv:=⟨false,2,11,[.tmp 4, .tmp 5],(sf [oz 4 (.mv (.k (.s []))),oz 5 (.mv kF)] (sf [mt 6 0,mt 7 1,oz 8 (.call CO [6,7]),oz 9 (.ext 8 0),oz 10 (.ext 8 1),mt 4 9,mt 5 10] .ret))⟩
def PO:Cv:=⟨false,2,13,[.tmp 4, .tmp 5, .tmp 6],(sf [oz 4 (.mv (.k (.s []))),oz 5 (.mv (.k (.s []))),oz 6 (.mv kF)] (sf [mt 7 0,mt 8 1,oz 9 (.call DO [7,8]),oz 10 (.ext 9 0),oz 11 (.ext 9 1),oz 12 (.ext 9 2),mt 4 10,mt 5 11,mt 6 12] .ret))⟩
def YZ:AC:=(sf [oz 27 (.bin .lss 26 (ki 8))] (.seq (.cond 27 .skip (.exit 0)) (.seq (.blk 1 (sf [mt 28 26,oz 29 (.ixa 8 1 false 25 26),mt 8 28,mt 9 29] (rg false [mt 30 8,oz 31 (.bin .mul (ki 2) 30),mt 32 8,oz 33 (.bin .mul (ki 2) 32),oz 34 (.bin .add 33 (ki 1)),mt 35 9,oz 36 (.bin .shr 35 (.k (.i .u64 8))),oz 37 (.cvi .u8 36),mt 38 9,oz 39 (.cvi .u8 38),oz 40 (.iaa 16 1 7 31),on (.st 1 40 37),oz 41 (.iaa 16 1 7 34),on (.st 1 41 39)]))) (rg false [oz 42 (.bin .add 26 (ki 1)),mt 26 42]))))
def Qb:Cv:=⟨false,1,44,[.cell true 16 2, .tmp 3],(sf [oz 2 (.alloc 39 (aw 16 bi).zc),oz 3 (.mv (ki 0))] (sf [oz 10 (.bld AH.zc [(9,1,(ki (-1)))]),oz 11 (.box 235 10 10),mt 4 11] (.seq (sf [mt 12 4,mt 13 0,oz 14 (.call Hu [12,13]),oz 15 (.un .not 14)] (.cond 15 (sf [oz 16 (.bld (aw 16 bi).zc []),on (.st 16 2 16),oz 3 (.mv (ki 5))] .ret) .skip)) (sf [mt 18 4,oz 19 (.call G8 [18]),mt 17 19,oz 20 (.ext 17 0),oz 21 (.ext 17 1),oz 5 (.alloc 233 (aw 8 dy).zc),on (.st 8 5 20),mt 6 21] (.seq (sf [mt 22 6,oz 23 (.un .not 22)] (.cond 23 (sf [oz 24 (.bld (aw 16 bi).zc []),on (.st 16 2 24),oz 3 (.mv (ki 5))] .ret) .skip)) (sf [oz 7 (.alloc 39 (aw 16 bi).zc)] (.seq (sf [oz 25 (.ld true 8 5),oz 26 (.mv (ki 0))] (.blk 0 (.loop [2,7,25,26] YZ))) (sf [oz 43 (.ld true 16 7),on (.st 16 2 43),oz 3 (.mv (ki 0))] .ret))))))))⟩
def We:Cv:=⟨false,1,5,[.cell true 17 2],(sf [oz 1 (.box 39 16 0),oz 2 (.alloc 41 Ao.zc)] (sf [oz 3 (.ld true 16 1),oz 4 (.bld Ao.zc [(0,1,(ki 6)),(1,16,3)]),on (.st 17 2 4)] .ret))⟩
def bR:AC:=(sf [oz 19 (.bin .lss 18 17)] (.seq (.cond 19 .skip (.exit 0)) (.seq (.blk 1 (sf [mt 20 18,oz 21 (.ias 1 16 18),oz 22 (.ld false 1 21),mt 6 20,mt 7 22] (sf [mt 24 7,oz 25 (.call Fq [24,(.k (.i .u64 255))]),mt 23 25,oz 26 (.ext 23 0),oz 27 (.ext 23 1),mt 8 26,mt 9 27] (.seq (sf [mt 28 9,oz 29 (.bin .neq 28 (ki 0))] (.cond 29 (sf [oz 30 (.bld (aw 4 bi).zc []),mt 31 9,on (.st 4 2 30),mt 3 31] .ret) .skip)) (rg false [mt 32 6,mt 33 8,oz 34 (.cvi .u8 33),oz 35 (.iaa 4 1 5 32),on (.st 1 35 34)]))))) (rg false [oz 36 (.bin .add 18 (ki 1)),mt 18 36]))))
def RM:Cv:=⟨false,1,38,[.cell true 4 2, .tmp 3],(sf [oz 2 (.alloc 153 (aw 4 bi).zc),oz 3 (.mv (ki 0))] (sf [mt 10 0,oz 11 (.call K8 [10,(.k (.i .u8 46))]),mt 4 11] (sf [oz 5 (.alloc 153 (aw 4 bi).zc)] (.seq (sf [mt 12 4,oz 13 (.len 12),oz 14 (.bin .neq 13 (ki 4))] (.cond 14 (sf [oz 15 (.ld true 4 5),on (.st 4 2 15),oz 3 (.mv (ki 5))] .ret) .skip)) (.seq (sf [mt 16 4,oz 17 (.len 16),oz 18 (.mv (ki 0))] (.blk 0 (.loop [2,5,16,17,18] bR))) (sf [oz 37 (.ld true 4 5),on (.st 4 2 37),oz 3 (.mv (ki 0))] .ret))))))⟩
def iQ:AC:=(sf [oz 8 (.bin .lss 7 (ki 4))] (.seq (.cond 8 .skip (.exit 0)) (.seq (.blk 1 (sf [mt 9 7,oz 10 (.ixa 4 1 false 6 7),mt 4 9,mt 5 10] (rg false [mt 11 4,mt 12 5,oz 13 (.cvi .u64 12),oz 14 (.call Fo [13]),oz 15 (.iaa 4 1 3 11),on (.st 1 15 14)]))) (rg false [oz 16 (.bin .add 7 (ki 1)),mt 7 16]))))
def TF:Cv:=⟨false,1,19,[.tmp 2],(sf [oz 1 (.box 153 4 0),oz 2 (.mv (.k (.s [])))] (sf [oz 3 (.alloc 238 (aw 4 Au).zc)] (.seq (sf [oz 6 (.ld true 4 1),oz 7 (.mv (ki 0))] (.blk 0 (.loop [3,6,7] iQ))) (sf [oz 17 (.sla 4 1 3 none none),oz 18 (.call HA [17,(.k (.s [46]))]),mt 2 18] .ret))))⟩
def RS:Cv:=⟨false,1,27,[.tmp 2],(sf [oz 1 (.box 39 16 0),oz 2 (.mv (.k (.s [])))] (sf [oz 6 (.ld true 16 1),oz 7 (.call JD [6]),oz 3 (.alloc 233 (aw 8 dy).zc),on (.st 8 3 7)] (sf [oz 9 (.ld true 8 3),oz 10 (.call IM [9]),mt 8 10,oz 11 (.ext 8 0),oz 12 (.ext 8 1),mt 4 11,mt 5 12] (.seq (sf [mt 13 5,oz 14 (.bin .lss 13 (ki 2))] (.cond 14 (sf [oz 15 (.sla 8 1 3 none none),oz 16 (.call IL [15]),mt 2 16] .ret) .skip)) (sr [mt 17 4,oz 18 (.sla 8 1 3 none (some 17)),oz 19 (.call IL [18]),oz 20 (.bin .add 19 (.k (.s [58,58]))),mt 21 4,mt 22 5,oz 23 (.bin .add 21 22),oz 24 (.sla 8 1 3 (some 23) none),oz 25 (.call IL [24]),oz 26 (.bin .add 20 25),mt 2 26] .ret)))))⟩
def EZ:Cv:=⟨false,2,32,[.tmp 4],(sf [oz 4 (.mv (.k (.s [])))] (.seq (sf [mt 9 1,oz 10 (.bin .eql 9 (ki 10))] (.cond 10 (.seq (sf [mt 11 0,oz 12 (.bin .lss 11 (.k (.i .u64 100)))] (.cond 12 (sf [mt 13 0,oz 14 (.cvi .i64 13),oz 15 (.call E5 [14]),mt 4 15] .ret) .skip)) (sf [oz 5 (.alloc 250 (aw 24 bi).zc)] (sf [mt 16 0,oz 17 (.call Dx [16]),mt 6 17] (sf [mt 18 6,oz 19 (.sla 24 1 5 none (some 18)),mt 20 0,oz 21 (.call Eb [19,20])] (sf [mt 22 6,oz 23 (.sla 24 1 5 none (some 22)),oz 24 (.cvs 23),mt 4 24] .ret))))) .skip)) (sf [mt 26 0,mt 27 1,oz 28 (.call L8 [(.k (.nils)),26,27,kF,kF]),mt 25 28,oz 29 (.ext 25 0),oz 30 (.ext 25 1),mt 7 29,mt 8 30] (sf [mt 31 8,mt 4 31] .ret))))⟩
def Jz:AC:=(sf [oz 5 (.nxt 4),oz 6 (.ext 5 0)] (.seq (.cond 6 .skip (.exit 0)) (.blk 1 (rg false [mt 7 2,oz 8 (.bin .add 7 (ki 1)),mt 2 8]))))
def Ee:Cv:=⟨false,1,10,[.tmp 2],(sf [oz 2 (.mv (ki 0))] (.seq (sf [mt 3 0,oz 4 (.rng 3)] (.blk 0 (.loop [2,4] Jz))) (sf [mt 9 2,mt 2 9] .ret)))⟩
def DQ:Cv:=⟨false,1,19,[.tmp 2, .tmp 3],(sf [oz 2 (.mv (.k (.i .i32 0))),oz 3 (.mv (ki 0))] (.seq (sf [mt 4 0,oz 5 (.bin .neq 4 (.k (.s []))),mt 6 5,og 7 6 (.mv 0),og 8 6 (.ixs 7 (ki 0)),og 9 6 (.bin .lss 8 (.k (.i .u8 128))),oz 10 (.pick 6 9 kF)] (.cond 10 (sf [mt 11 0,oz 12 (.ixs 11 (ki 0)),oz 13 (.cvi .i32 12),mt 2 13,oz 3 (.mv (ki 1))] .ret) (rg false [mt 15 0,oz 16 (.call Cs [15]),mt 14 16,oz 17 (.ext 14 0),oz 18 (.ext 14 1),mt 2 17,mt 3 18]))) .ret))⟩
def Ei:Cv:=⟨false,2,15,[.tmp 4, .tmp 5],(sf [oz 4 (.mv (.k (.s []))),oz 5 (.mv kF)] (.seq (sf [mt 6 0,mt 7 1,oz 8 (.call Cp [6,7]),oz 9 (.un .not 8)] (.cond 9 (sf [mt 10 0,mt 4 10,oz 5 (.mv kF)] .ret) .skip)) (sf [mt 11 0,mt 12 1,oz 13 (.lens 12),oz 14 (.sls 11 (some 13) none),mt 4 14,oz 5 (.mv kT)] .ret)))⟩
def FV:Cv:=⟨false,2,23,[.tmp 4, .tmp 5, .tmp 6],(sf [oz 4 (.mv (.k (.s []))),oz 5 (.mv (.k (.s []))),oz 6 (.mv kF)] (.seq (sf [mt 8 0,mt 9 1,oz 10 (.call CB [8,9]),mt 7 10] (sf [mt 11 7,oz 12 (.bin .geq 11 (ki 0))] (.cond 12 (sr [mt 13 0,mt 14 7,oz 15 (.sls 13 none (some 14)),mt 16 0,mt 17 7,mt 18 1,oz 19 (.lens 18),oz 20 (.bin .add 17 19),oz 21 (.sls 16 (some 20) none),mt 4 15,mt 5 21,oz 6 (.mv kT)] .ret) .skip))) (sf [mt 22 0,mt 4 22,oz 5 (.mv (.k (.s []))),oz 6 (.mv kF)] .ret)))⟩
def PQ:AC:=(.blk 1 (sf [mt 20 1,oz 21 (.call F4 [20,(.k (.i .u8 58))]),mt 19 21,oz 22 (.ext 19 0),oz 23 (.ext 19 1),oz 24 (.ext 19 2),mt 5 22,mt 6 23,mt 7 24] (.seq (sf [mt 25 7,oz 26 (.un .not 25)] (.cond 26 (sf [mt 27 0,mt 28 5,oz 29 (.call Ht [27,28]),mt 4 29] .ret) .skip)) (sf [mt 31 5,oz 32 (.call FP [31]),mt 30 32,oz 33 (.ext 30 0),oz 34 (.ext 30 1),mt 8 33,mt 9 34] (.seq (sf [mt 35 9,oz 36 (.bin .neq 35 (ki 0)),mt 37 36,oh 38 37 (.mv 0),oh 39 37 (.mv 8),oh 40 37 (.call D3 [38,39]),oh 41 37 (.un .not 40),oz 42 (.pick 37 kT 41)] (.cond 42 (sf [oz 4 (.mv kF)] .ret) .skip)) (sf [mt 43 6,mt 1 43] (.seq (sf [mt 44 1,oz 45 (.call EV [44,(.k (.s [58]))]),oz 46 (.un .not 45)] (.cond 46 (.exit 1) .skip)) (.seq (sf [mt 47 0,oz 48 (.nilc 47),oz 49 (.fa 9 48),oz 50 (.ld false 1 49),oz 51 (.bin .geq 50 (ki 0))] (.cond 51 (sf [oz 4 (.mv kF)] .ret) .skip)) (sf [mt 52 0,mt 53 0,oz 54 (.nilc 53),oz 55 (.fa 8 54),oz 56 (.ld false 1 55),oz 57 (.nilc 52),oz 58 (.fa 9 57),on (.st 1 58 56)] (sf [mt 59 1,oz 60 (.sls 59 (some (ki 1)) none),mt 1 60] (sf [mt 61 1,oz 62 (.bin .eql 61 (.k (.s [])))] (.cond 62 (sf [oz 4 (.mv kT)] .ret) .skip))))))))))))
def Ln:Cv:=⟨true,2,63,[.tmp 4],(sf [oz 4 (.mv kF)] (.seq (sf [mt 10 1,oz 11 (.call EV [10,(.k (.s [58,58]))])] (.cond 11 (sf [mt 12 0,oz 13 (.nilc 12),oz 14 (.fa 9 13),on (.st 1 14 (ki 0))] (sf [mt 15 1,oz 16 (.sls 15 (some (ki 2)) none),mt 1 16] (sf [mt 17 1,oz 18 (.bin .eql 17 (.k (.s [])))] (.cond 18 (sf [oz 4 (.mv kT)] .ret) .skip)))) .skip)) (.blk 0 (.loop [0,1] PQ))))⟩
def Ke:Cv:=⟨true,1,63,[.cell true 8 2, .tmp 3],(sf [oz 2 (.alloc 233 (aw 8 dy).zc),oz 3 (.mv kF)] (.seq (sf [mt 5 0,oz 6 (.nilc 5),oz 7 (.fa 9 6),oz 8 (.ld false 1 7),oz 9 (.bin .lss 8 (ki 0))] (.cond 9 (.seq (.regd [mt 10 0,oz 11 (.nilc 10),oz 12 (.fa 0 11),oz 13 (.ld true 8 12),mt 14 0,oz 15 (.nilc 14),oz 16 (.fa 8 15),oz 17 (.ld false 1 16),oz 18 (.bin .eql 17 (ki 8)),on (.st 8 2 13),mt 3 18] [some (0,0),some (0,0),some (0,0),some (0,0),some (0,1),some (0,1),some (0,1),some (0,1),some (0,1),none,some (1,1)]) .ret) .skip)) (.seq (sf [mt 19 0,oz 20 (.nilc 19),oz 21 (.fa 8 20),oz 22 (.ld false 1 21),oz 23 (.bin .eql 22 (ki 8))] (.cond 23 (sf [mt 24 0,oz 25 (.nilc 24),oz 26 (.fa 0 25),oz 27 (.ld true 8 26),on (.st 8 2 27),oz 3 (.mv kF)] .ret) .skip)) (sf [oz 4 (.alloc 233 (aw 8 dy).zc)] (.seq (.regd [oz 28 (.sla 8 1 4 none none),mt 29 0,oz 30 (.nilc 29),oz 31 (.fa 0 30),mt 32 0,oz 33 (.nilc 32),oz 34 (.fa 9 33),oz 35 (.ld false 1 34),oz 36 (.sla 8 1 31 none (some 35)),oz 37 (.cpy 1 28 36)] [some (0,0),some (0,0),some (0,0),some (0,0),some (0,0),some (0,0),some (0,0),some (0,0),some (0,0),none]) (.seq (.regd [mt 38 0,oz 39 (.nilc 38),oz 40 (.fa 8 39),oz 41 (.ld false 1 40),oz 42 (.bin .sub (ki 8) 41),mt 43 0,oz 44 (.nilc 43),oz 45 (.fa 9 44),oz 46 (.ld false 1 45),oz 47 (.bin .add 42 46),oz 48 (.sla 8 1 4 (some 47) none),mt 49 0,oz 50 (.nilc 49),oz 51 (.fa 0 50),mt 52 0,oz 53 (.nilc 52),oz 54 (.fa 9 53),oz 55 (.ld false 1 54),mt 56 0,oz 57 (.nilc 56),oz 58 (.fa 8 57),oz 59 (.ld false 1 58),oz 60 (.sla 8 1 51 (some 55) (some 59)),oz 61 (.cpy 1 48 60)] [some (0,0),some (0,0),some (0,0),some (0,0),some (0,0),some (0,0),some (0,0),some (0,0),some (0,0),some (0,0),some (0,0),some (0,0),some (0,0),some (0,0),some (0,0),some (0,0),some (0,0),some (0,0),some (0,0),some (0,0),some (0,0),some (0,0),some (0,0),none])
 (sf [oz 62 (.ld true 8 4),on (.st 8 2 62),oz 3 (.mv kT)] .ret)))))))⟩
def YU:AC:=(.blk 1 (sf [mt 10 0,mt 11 1,oz 12 (.call F4 [10,11]),mt 9 12,oz 13 (.ext 9 0),oz 14 (.ext 9 1),oz 15 (.ext 9 2),mt 6 13,mt 7 14,mt 8 15] (sf [mt 16 5,mt 17 6,oz 18 (.bll 1 (az 1 Au.zc) [(0,17)]),oz 19 (.app 9 1 16 16 18),mt 5 19] (.seq (sf [mt 20 8,oz 21 (.un .not 20)] (.cond 21 (sf [mt 22 5,mt 4 22] .ret) .skip)) (rg false [mt 23 7,mt 0 23])))))
def PT:Cv:=⟨false,2,24,[.tmp 4],(sf [oz 4 (.mv (.k (.nils)))] (sf [oz 5 (.mv (.k (.nils)))] (.blk 0 (.loop [0,1,5] YU))))⟩
def X5:AC:=(sf [oz 42 (.bin .lss 41 40)] (.seq (.cond 42 .skip (.exit 1)) (.seq (.blk 2 (sf [oz 43 (.ias 1 39 41),oz 44 (.ld false 1 43),mt 7 44] (.seq (sf [mt 45 7,oz 46 (.lens 45),mt 47 5,oz 48 (.bin .sub (ki 9223372036854775807) 47),oz 49 (.bin .gtr 46 48)] (.cond 49 (rg false [oz 50 (.mkif 9 (.k (.s [115,116,114,105,110,103,115,58,32,74,111,105,110,32,111,117,116,112,117,116,32,108,101,110,103,116,104,32,111,118,101,114,102,108,111,119]))),on (.die)]) .skip)) (rg false [mt 51 5,mt 52 7,oz 53 (.lens 52),oz 54 (.bin .add 51 53),mt 5 54])))) (rg false [oz 55 (.bin .add 41 (ki 1)),mt 41 55]))))
def X4:AC:=(sf [oz 66 (.bin .lss 65 64)] (.seq (.cond 66 .skip (.exit 3)) (.seq (.blk 4 (sf [oz 67 (.ias 1 63 65),oz 68 (.ld false 1 67),mt 10 68] (sf [mt 69 1,oz 70 (.call BJ [8,69])] (rg false [mt 71 10,oz 72 (.call BJ [8,71])])))) (rg false [oz 73 (.bin .add 65 (ki 1)),mt 65 73]))))
def Ol:Cv:=⟨false,2,75,[.tmp 4],(sf [oz 4 (.mv (.k (.s [])))] (.seq (sf [mt 11 0,oz 12 (.len 11)] (.blk 0 (sf [oz 14 (.bin .eql 12 (ki 0)),mt 13 14] (.cond 13 (sf [oz 4 (.mv (.k (.s [])))] .ret) (sf [oz 16 (.bin .eql 12 (ki 1)),mt 15 16] (.cond 15 (sf [mt 17 0,oz 18 (.ias 1 17 (ki 0)),oz 19 (.ld false 1 18),mt 4 19] .ret) .skip)))))) (sf [oz 5 (.mv (ki 0))] (.seq (sf [mt 20 1,oz 21 (.lens 20),oz 22 (.bin .gtr 21 (ki 0))] (.cond 22 (.seq (sf [mt 23 1,oz 24 (.lens 23),mt 25 0,oz 26 (.len 25),oz 27 (.bin .sub 26 (ki 1)),oz 28 (.bin .quo (ki 9223372036854775807) 27),oz 29 (.bin .geq 24 28)] (.cond 29 (rg false [oz 30 (.mkif 9 (.k (.s [115,116,114,105,110,103,115,58,32,74,111,105,110,32,111,117,116,112,117,116,32,108,101,110,103,116,104,32,111,118,101,114,102,108,111,119]))),on (.die)]) .skip)) (rg false [mt 31 5,mt 32 1,oz 33 (.lens 32),mt 34 0,oz 35 (.len 34),oz 36 (.bin .sub 35 (ki 1)),oz 37 (.bin .mul 33 36),oz 38 (.bin .add 31 37),mt 5 38])) .skip)) (.seq (sf [mt 39 0,oz 40 (.len 39),oz 41 (.mv (ki 0))] (.blk 1 (.loop [0,1,5,39,40,41] X5))) (sf [oz 8 (.alloc 119 (zz [(1, .nilp),(1, .nils)]))] (sf [mt 56 5,oz 57 (.call Gi [8,56])] (sf [mt 58 0,oz 59 (.ias 1 58 (ki 0)),oz 60 (.ld false 1 59),oz 61 (.call BJ [8,60])] (.seq (sf [mt 62 0,oz 63 (.sll 1 62 (some (ki 1)) none),oz 64 (.len 63),oz 65 (.mv (ki 0))] (.blk 3 (.loop [1,8,63,64,65] X4))) (sf [oz 74 (.call Db [8]),mt 4 74] .ret))))))))))⟩
def XC:AC:=(sf [oz 8 (.bin .lss 7 (ki 8))] (.seq (.cond 8 .skip (.exit 0)) (.seq (.blk 1 (sf [mt 9 7,mt 4 9] (sf [mt 11 4,oz 12 (.bin .mul (ki 2) 11),mt 13 4,oz 14 (.bin .mul (ki 2) 13),oz 15 (.bin .add 14 (ki 2)),oz 16 (.sla 16 1 1 (some 12) (some 15)),oz 17 (.call JC [16]),mt 10 17,oz 18 (.ext 10 0),oz 19 (.ext 10 1),mt 5 18,mt 6 19] (rg false [mt 20 4,mt 21 5,oz 22 (.cvi .u16 21),oz 23 (.iaa 8 1 3 20),on (.st 1 23 22)])))) (rg false [oz 24 (.bin .add 7 (ki 1)),mt 7 24]))))
def O3:Cv:=⟨false,1,26,[.cell true 8 2],(sf [oz 1 (.box 39 16 0),oz 2 (.alloc 233 (aw 8 dy).zc)] (sf [oz 3 (.alloc 233 (aw 8 dy).zc)] (.seq (sf [oz 7 (.mv (ki 0))] (.blk 0 (.loop [1,2,3,7] XC))) (sf [oz 25 (.ld true 8 3),on (.st 8 2 25)] .ret))))⟩
def Wd:AC:=(sf [oz 9 (.bin .lss 8 (ki 8))] (.seq (.cond 9 .skip (.exit 0)) (.seq (.blk 1 (sf [mt 10 8,oz 11 (.ixa 8 1 false 7 8),mt 5 10,mt 6 11] (.seq (sf [mt 12 6,oz 13 (.bin .neq 12 (.k (.i .u16 0)))] (.cond 13 (sf [oz 4 (.mv (ki 0))] (.exit 1)) .skip)) (sf [mt 14 4,oz 15 (.bin .add 14 (ki 1)),mt 4 15] (sf [mt 16 4,mt 17 3,oz 18 (.bin .gtr 16 17)] (.cond 18 (rg false [mt 19 5,oz 20 (.bin .add 19 (ki 1)),mt 21 4,oz 22 (.bin .sub 20 21),mt 23 4,mt 2 22,mt 3 23]) .skip)))))) (rg false [oz 24 (.bin .add 8 (ki 1)),mt 8 24]))))
def MT:Cv:=⟨false,1,27,[.tmp 2, .tmp 3],(sf [oz 1 (.box 233 8 0),oz 2 (.mv (ki 0)),oz 3 (.mv (ki 0))] (sf [oz 4 (.mv (ki 0))] (.seq (sf [oz 7 (.ld true 8 1),oz 8 (.mv (ki 0))] (.blk 0 (.loop [2,3,4,7,8] Wd))) (sf [mt 25 2,mt 26 3,mt 2 25,mt 3 26] .ret))))⟩
def iR:AC:=(sf [oz 9 (.bin .lss 8 7)] (.seq (.cond 9 .skip (.exit 0)) (.seq (.blk 1 (sf [oz 10 (.ias 1 6 8),oz 11 (.ld false 1 10),mt 5 11] (rg false [mt 12 3,mt 13 5,oz 14 (.call KC [13]),oz 15 (.bll 1 (az 1 Au.zc) [(0,14)]),oz 16 (.app 9 1 16 12 15),mt 3 16]))) (rg false [oz 17 (.bin .add 8 (ki 1)),mt 8 17]))))
def TK:Cv:=⟨false,1,20,[.tmp 2],(sf [oz 2 (.mv (.k (.s [])))] (sf [oz 3 (.mv (.k (.nils)))] (.seq (sf [mt 6 0,oz 7 (.len 6),oz 8 (.mv (ki 0))] (.blk 0 (.loop [3,6,7,8] iR))) (sf [mt 18 3,oz 19 (.call HA [18,(.k (.s [58]))]),mt 2 19] .ret))))⟩
def GD:Cv:=⟨false,1,15,[.tmp 2],(sf [oz 2 (.mv (.k (.s [])))] (.seq (sf [mt 3 0,oz 4 (.bin .lss 3 (ki 10))] (.cond 4 (sf [mt 5 0,mt 6 0,oz 7 (.bin .add 6 (ki 1)),oz 8 (.sls (.k (.s [48,49,50,51,52,53,54,55,56,57,97,98,99,100,101,102,103,104,105,106,107,108,109,110,111,112,113,114,115,116,117,118,119,120,121,122])) (some 5) (some 7)),mt 2 8] .ret) .skip)) (sf [mt 9 0,oz 10 (.bin .mul 9 (ki 2)),mt 11 0,oz 12 (.bin .mul 11 (ki 2)),oz 13 (.bin .add 12 (ki 2)),oz 14 (.sls (.k (.s Gb)) (some 10) (some 13)),mt 2 14] .ret)))⟩
def Fs:Cv:=⟨false,1,15,[.tmp 2],(sf [oz 2 (.mv (ki 0))] (sf [mt 4 0,oz 5 (.call Hv [4]),oz 6 (.call Dy [5]),mt 3 6] (sf [mt 7 3,mt 8 0,mt 9 3,oz 10 (.iaa 20 1 (.g 4) 9),oz 11 (.ld false 1 10),oz 12 (.bin .geq 8 11),oz 13 (.call Dz [12]),oz 14 (.bin .add 7 13),mt 2 14] .ret)))⟩
def JX:AC:=(.seq (sf [mt 19 4,oz 20 (.bin .geq 19 (ki 8))] (.cond 20 .skip (.exit 0))) (.blk 1 (sf [mt 21 1,oz 22 (.bin .rem 21 (.k (.i .u64 100000000))),oz 23 (.cvi .u32 22),mt 5 23] (sf [mt 24 1,oz 25 (.bin .quo 24 (.k (.i .u64 100000000))),mt 1 25] (sf [mt 26 5,oz 27 (.bin .quo 26 (.k (.i .u32 10000))),mt 28 5,oz 29 (.bin .rem 28 (.k (.i .u32 10000))),mt 6 27,mt 7 29] (sf [mt 30 7,oz 31 (.bin .quo 30 (.k (.i .u32 100))),oz 32 (.bin .mul 31 (.k (.i .u32 2))),mt 33 7,oz 34 (.bin .rem 33 (.k (.i .u32 100))),oz 35 (.bin .mul 34 (.k (.i .u32 2))),mt 8 32,mt 9 35] (sf [mt 36 6,oz 37 (.bin .quo 36 (.k (.i .u32 100))),oz 38 (.bin .mul 37 (.k (.i .u32 2))),mt 39 6,oz 40 (.bin .rem 39 (.k (.i .u32 100))),oz 41 (.bin .mul 40 (.k (.i .u32 2))),mt 10 38,mt 11 41] (.seq (.regd [mt 42 0,mt 43 4,oz 44 (.bin .sub 43 (ki 1)),mt 45 0,mt 46 4,oz 47 (.bin .sub 46 (ki 2)),mt 48 9,oz 49 (.bin .add 48 (.k (.i .u32 1))),oz 50 (.ixs (.k (.s Gb)) 49),mt 51 9,oz 52 (.ixs (.k (.s Gb)) 51),oz 53 (.ias 1 42 44),on (.st 1 53 50),oz 54 (.ias 1 45 47),on (.st 1 54 52)] [some (0,0),some (0,0),some (0,0),some (0,1),some (0,1),some (0,1),some (0,0),some (0,0),some (0,0),some (0,1),some (0,1),some (0,0),none,some (1,1),none]) (.seq (.regd [mt 55 0,mt 56 4,oz 57 (.bin .sub 56 (ki 3)),mt 58 0,mt 59 4,oz 60 (.bin .sub 59 (ki 4)),mt 61 8,oz 62 (.bin .add 61 (.k (.i .u32 1))),oz 63 (.ixs (.k (.s Gb)) 62),mt 64 8,oz 65 (.ixs (.k (.s Gb)) 64),oz 66 (.ias 1 55 57),on (.st 1 66 63),oz 67 (.ias 1 58 60),on (.st 1 67 65)] [some (0,0),some (0,0),some (0,0),some (0,1),some (0,1),some (0,1),some (0,0),some (0,0),some (0,0),some (0,1),some (0,1),some (0,0),none,some (1,1),none])
  (.seq (.regd [mt 68 0,mt 69 4,oz 70 (.bin .sub 69 (ki 5)),mt 71 0,mt 72 4,oz 73 (.bin .sub 72 (ki 6)),mt 74 11,oz 75 (.bin .add 74 (.k (.i .u32 1))),oz 76 (.ixs (.k (.s Gb)) 75),mt 77 11,oz 78 (.ixs (.k (.s Gb)) 77),oz 79 (.ias 1 68 70),on (.st 1 79 76),oz 80 (.ias 1 71 73),on (.st 1 80 78)] [some (0,0),some (0,0),some (0,0),some (0,1),some (0,1),some (0,1),some (0,0),some (0,0),some (0,0),some (0,1),some (0,1),some (0,0),none,some (1,1),none]) (.seq (.regd [mt 81 0,mt 82 4,oz 83 (.bin .sub 82 (ki 7)),mt 84 0,mt 85 4,oz 86 (.bin .sub 85 (ki 8)),mt 87 10,oz 88 (.bin .add 87 (.k (.i .u32 1))),oz 89 (.ixs (.k (.s Gb)) 88),mt 90 10,oz 91 (.ixs (.k (.s Gb)) 90),oz 92 (.ias 1 81 83),on (.st 1 92 89),oz 93 (.ias 1 84 86),on (.st 1 93 91)] [some (0,0),some (0,0),some (0,0),some (0,1),some (0,1),some (0,1),some (0,0),some (0,0),some (0,0),some (0,1),some (0,1),some (0,0),none,some (1,1),none]) (rg false [mt 94 4,oz 95 (.bin .sub 94 (ki 8)),mt 4 95]))))))))))))
def GG:Cv:=⟨true,2,167,[],(sf [mt 17 0,oz 18 (.len 17),mt 4 18] (.seq (.blk 0 (.loop [0,1,4] JX)) (sf [mt 96 1,oz 97 (.cvi .u32 96),mt 12 97] (.seq (sf [mt 98 4,oz 99 (.bin .geq 98 (ki 4))] (.cond 99 (sf [mt 100 12,oz 101 (.bin .rem 100 (.k (.i .u32 10000))),mt 13 101] (sf [mt 102 12,oz 103 (.bin .quo 102 (.k (.i .u32 10000))),mt 12 103] (sf [mt 104 13,oz 105 (.bin .quo 104 (.k (.i .u32 100))),oz 106 (.bin .mul 105 (.k (.i .u32 2))),mt 107 13,oz 108 (.bin .rem 107 (.k (.i .u32 100))),oz 109 (.bin .mul 108 (.k (.i .u32 2))),mt 14 106,mt 15 109] (.seq (.regd [mt 110 0,mt 111 4,oz 112 (.bin .sub 111 (ki 1)),mt 113 0,mt 114 4,oz 115 (.bin .sub 114 (ki 2)),mt 116 15,oz 117 (.bin .add 116 (.k (.i .u32 1))),oz 118 (.ixs (.k (.s Gb)) 117),mt 119 15,oz 120 (.ixs (.k (.s Gb)) 119),oz 121 (.ias 1 110 112),on (.st 1 121 118),oz 122 (.ias 1 113 115),on (.st 1 122 120)] [some (0,0),some (0,0),some (0,0),some (0,1),some (0,1),some (0,1),some (0,0),some (0,0),some (0,0),some (0,1),some (0,1),some (0,0),none,some (1,1),none]) (.seq (.regd [mt 123 0,mt 124 4,oz 125 (.bin .sub 124 (ki 3)),mt 126 0,mt 127 4,oz 128 (.bin .sub 127 (ki 4)),mt 129 14,oz 130 (.bin .add 129 (.k (.i .u32 1))),oz 131 (.ixs (.k (.s Gb)) 130),mt 132 14,oz 133 (.ixs (.k (.s Gb)) 132),oz 134 (.ias 1 123 125),on (.st 1 134 131),oz 135 (.ias 1 126 128),on (.st 1 135 133)] [some (0,0),some (0,0),some (0,0),some (0,1),some (0,1),some (0,1),some (0,0),some (0,0),some (0,0),some (0,1),some (0,1),some (0,0),none,some (1,1),none])
  (rg false [mt 136 4,oz 137 (.bin .sub 136 (ki 4)),mt 4 137])))))) .skip)) (.seq (sf [mt 138 4,oz 139 (.bin .geq 138 (ki 2))] (.cond 139 (sf [mt 140 12,oz 141 (.bin .rem 140 (.k (.i .u32 100))),oz 142 (.bin .mul 141 (.k (.i .u32 2))),mt 16 142] (sf [mt 143 12,oz 144 (.bin .quo 143 (.k (.i .u32 100))),mt 12 144] (.seq (.regd [mt 145 0,mt 146 4,oz 147 (.bin .sub 146 (ki 1)),mt 148 0,mt 149 4,oz 150 (.bin .sub 149 (ki 2)),mt 151 16,oz 152 (.bin .add 151 (.k (.i .u32 1))),oz 153 (.ixs (.k (.s Gb)) 152),mt 154 16,oz 155 (.ixs (.k (.s Gb)) 154),oz 156 (.ias 1 145 147),on (.st 1 156 153),oz 157 (.ias 1 148 150),on (.st 1 157 155)] [some (0,0),some (0,0),some (0,0),some (0,1),some (0,1),some (0,1),some (0,0),some (0,0),some (0,0),some (0,1),some (0,1),some (0,0),none,some (1,1),none]) (rg false [mt 158 4,oz 159 (.bin .sub 158 (ki 2)),mt 4 159])))) .skip)) (sf [mt 160 4,oz 161 (.bin .gtr 160 (ki 0))] (.cond 161 (rg false [mt 162 0,mt 163 12,oz 164 (.bin .add (.k (.i .u32 48)) 163),oz 165 (.cvi .u8 164),oz 166 (.ias 1 162 (ki 0)),on (.st 1 166 165)]) .skip)))))))⟩
def Dq:Cv:=⟨false,1,117,[.tmp 2, .tmp 3],(sf [oz 2 (.mv (.k (.i .i32 0))),oz 3 (.mv (ki 0))] (sf [mt 13 0,oz 14 (.lens 13),mt 4 14] (.seq (sf [mt 15 4,oz 16 (.bin .lss 15 (ki 1))] (.cond 16 (sf [oz 2 (.mv (.k (.i .i32 65533))),oz 3 (.mv (ki 0))] .ret) .skip)) (sf [mt 17 0,oz 18 (.ixs 17 (ki 0)),mt 5 18] (sf [mt 19 5,oz 20 (.iaa 256 1 (.g 5) 19),oz 21 (.ld false 1 20),mt 6 21] (.seq (sf [mt 22 6,oz 23 (.bin .geq 22 (.k (.i .u8 240)))] (.cond 23 (sf [mt 24 6,oz 25 (.cvi .i32 24),oz 26 (.bin .shl 25 (.k (.i .u64 31))),oz 27 (.bin .shr 26 (.k (.i .u64 31))),mt 7 27] (sf [mt 28 0,oz 29 (.ixs 28 (ki 0)),oz 30 (.cvi .i32 29),mt 31 7,oz 32 (.bin .andNot 30 31),mt 33 7,oz 34 (.bin .and (.k (.i .i32 65533)) 33),oz 35 (.bin .or 32 34),mt 2 35,oz 3 (.mv (ki 1))] .ret)) .skip)) (sf [mt 36 6,oz 37 (.bin .and 36 (.k (.i .u8 7))),oz 38 (.cvi .i64 37),mt 8 38] (sf [mt 39 6,oz 40 (.bin .shr 39 (.k (.i .u64 4))),oz 41 (.iaa 16 2 (.g 6) 40),oz 42 (.ld true 2 41),oz 9 (.alloc 271 O7.zc),on (.st 2 9 42)] (.seq (sf [mt 43 4,mt 44 8,oz 45 (.bin .lss 43 44)] (.cond 45 (sf [oz 2 (.mv (.k (.i .i32 65533))),oz 3 (.mv (ki 1))] .ret) .skip)) (sf [mt 46 0,oz 47 (.ixs 46 (ki 1)),mt 10 47] (.seq (sf [mt 48 10,oz 49 (.fa 0 9),oz 50 (.ld false 1 49),oz 51 (.bin .lss 48 50),mt 52 51,oh 53 52 (.fa 1 9),oh 54 52 (.ld false 1 53),oh 55 52 (.mv 10),oh 56 52 (.bin .lss 54 55),oz 57 (.pick 52 kT 56)] (.cond 57 (sf [oz 2 (.mv (.k (.i .i32 65533))),oz 3 (.mv (ki 1))] .ret) .skip)) (.seq (sf [mt 58 8,oz 59 (.bin .leq 58 (ki 2))]
 (.cond 59 (sf [mt 60 5,oz 61 (.bin .and 60 (.k (.i .u8 31))),oz 62 (.cvi .i32 61),oz 63 (.bin .shl 62 (.k (.i .u64 6))),mt 64 10,oz 65 (.bin .and 64 (.k (.i .u8 63))),oz 66 (.cvi .i32 65),oz 67 (.bin .or 63 66),mt 2 67,oz 3 (.mv (ki 2))] .ret) .skip)) (sf [mt 68 0,oz 69 (.ixs 68 (ki 2)),mt 11 69] (.seq (sf [mt 70 11,oz 71 (.bin .lss 70 (.k (.i .u8 128))),mt 72 71,oh 73 72 (.mv 11),oh 74 72 (.bin .lss (.k (.i .u8 191)) 73),oz 75 (.pick 72 kT 74)] (.cond 75 (sf [oz 2 (.mv (.k (.i .i32 65533))),oz 3 (.mv (ki 1))] .ret) .skip)) (.seq (sf [mt 76 8,oz 77 (.bin .leq 76 (ki 3))] (.cond 77 (sf [mt 78 5,oz 79 (.bin .and 78 (.k (.i .u8 15))),oz 80 (.cvi .i32 79),oz 81 (.bin .shl 80 (.k (.i .u64 12))),mt 82 10,oz 83 (.bin .and 82 (.k (.i .u8 63))),oz 84 (.cvi .i32 83),oz 85 (.bin .shl 84 (.k (.i .u64 6))),oz 86 (.bin .or 81 85),mt 87 11,oz 88 (.bin .and 87 (.k (.i .u8 63))),oz 89 (.cvi .i32 88),oz 90 (.bin .or 86 89),mt 2 90,oz 3 (.mv (ki 3))] .ret) .skip)) (sf [mt 91 0,oz 92 (.ixs 91 (ki 3)),mt 12 92] (.seq (sf [mt 93 12,oz 94 (.bin .lss 93 (.k (.i .u8 128))),mt 95 94,oh 96 95 (.mv 12),oh 97 95 (.bin .lss (.k (.i .u8 191)) 96),oz 98 (.pick 95 kT 97)] (.cond 98 (sf [oz 2 (.mv (.k (.i .i32 65533))),oz 3 (.mv (ki 1))] .ret) .skip)) (sf [mt 99 5,oz 100 (.bin .and 99 (.k (.i .u8 7))),oz 101 (.cvi .i32 100),oz 102 (.bin .shl 101 (.k (.i .u64 18))),mt 103 10,oz 104 (.bin .and 103 (.k (.i .u8 63))),oz 105 (.cvi .i32 104),oz 106 (.bin .shl 105 (.k (.i .u64 12))),oz 107 (.bin .or 102 106),mt 108 11,oz 109 (.bin .and 108 (.k (.i .u8 63))),oz 110 (.cvi .i32 109),oz 111 (.bin .shl 110 (.k (.i .u64 6))),oz 112 (.bin .or 107 111),mt 113 12,oz 114 (.bin .and 113 (.k (.i .u8 63))),oz 115 (.cvi .i32 114),oz 116 (.bin .or 112 115),mt 2 116,oz 3 (.mv (ki 4))]
 .ret))))))))))))))))))⟩
def Eh:Cv:=⟨false,2,18,[.tmp 4],(sf [oz 4 (.mv kF)] (sf [mt 5 0,oz 6 (.lens 5),mt 7 1,oz 8 (.lens 7),oz 9 (.bin .geq 6 8),mt 10 9,og 11 10 (.mv 0),og 12 10 (.mv 1),og 13 10 (.lens 12),og 14 10 (.sls 11 none (some 13)),og 15 10 (.mv 1),og 16 10 (.bin .eql 14 15),oz 17 (.pick 10 16 kF),mt 4 17] .ret))⟩
def Jc:Cv:=⟨false,2,8,[.tmp 4],(sf [oz 4 (.mv kF)] (sf [mt 5 0,mt 6 1,oz 7 (.call Cp [5,6]),mt 4 7] .ret))⟩
def Lm:Cv:=⟨true,2,50,[.tmp 4],(sf [oz 4 (.mv kF)] (.seq (sf [mt 10 1,oz 11 (.call FP [10]),mt 9 11,oz 12 (.ext 9 0),oz 13 (.ext 9 1),mt 5 12,mt 6 13] (sf [mt 14 6,oz 15 (.bin .eql 14 (ki 0))] (.cond 15 (sf [mt 16 0,mt 17 5,oz 18 (.call D3 [16,17]),mt 4 18] .ret) .skip))) (sf [mt 20 1,oz 21 (.call Jr [20]),mt 19 21,oz 22 (.ext 19 0),oz 23 (.ext 19 1),oz 7 (.alloc 153 (aw 4 bi).zc),on (.st 4 7 22),mt 8 23] (sf [mt 24 8,oz 25 (.bin .eql 24 (ki 0)),mt 26 25,og 27 26 (.mv 0),og 28 26 (.iaa 4 1 7 (ki 0)),og 29 26 (.ld false 1 28),og 30 26 (.cvi .u16 29),og 31 26 (.bin .shl 30 (.k (.i .u64 8))),og 32 26 (.iaa 4 1 7 (ki 1)),og 33 26 (.ld false 1 32),og 34 26 (.cvi .u16 33),og 35 26 (.bin .or 31 34),og 36 26 (.call D3 [27,35]),oz 37 (.pick 26 36 kF),mt 38 37,og 39 38 (.mv 0),og 40 38 (.iaa 4 1 7 (ki 2)),og 41 38 (.ld false 1 40),og 42 38 (.cvi .u16 41),og 43 38 (.bin .shl 42 (.k (.i .u64 8))),og 44 38 (.iaa 4 1 7 (ki 3)),og 45 38 (.ld false 1 44),og 46 38 (.cvi .u16 45),og 47 38 (.bin .or 43 46),og 48 38 (.call D3 [39,47]),oz 49 (.pick 38 48 kF),mt 4 49] .ret))))⟩
def TI:AC:=(sf [oz 19 (.bin .lss 18 17)] (.seq (.cond 19 .skip (.exit 0)) (.seq (.blk 1 (sf [mt 20 18,mt 5 20] (sf [mt 22 0,mt 23 5,oz 24 (.ixs 22 23),oz 25 (.call KB [24]),oz 26 (.call GR [25]),mt 21 26,oz 27 (.ext 21 0),oz 28 (.ext 21 1),mt 6 27,mt 7 28] (.seq (sf [mt 29 7,oz 30 (.un .not 29)] (.cond 30 (sf [oz 2 (.mv (.k (.i .u16 0))),oz 3 (.mv (ki 5))] .ret) .skip)) (rg false [mt 31 4,oz 32 (.bin .shl 31 (.k (.i .u64 4))),mt 33 6,oz 34 (.bin .or 32 33),mt 4 34]))))) (rg false [oz 35 (.bin .add 18 (ki 1)),mt 18 35]))))
def KS:Cv:=⟨false,1,37,[.tmp 2, .tmp 3],(sf [oz 2 (.mv (.k (.i .u16 0))),oz 3 (.mv (ki 0))] (.seq (sf [mt 8 0,oz 9 (.lens 8),oz 10 (.bin .lss 9 (ki 1)),mt 11 10,oh 12 11 (.mv 0),oh 13 11 (.lens 12),oh 14 11 (.bin .gtr 13 (ki 4)),oz 15 (.pick 11 kT 14)] (.cond 15 (sf [oz 2 (.mv (.k (.i .u16 0))),oz 3 (.mv (ki 5))] .ret) .skip)) (sf [oz 4 (.mv (.k (.i .u16 0)))] (.seq (sf [mt 16 0,oz 17 (.lens 16),oz 18 (.mv (ki 0))] (.blk 0 (.loop [0,4,17,18] TI))) (sf [mt 36 4,mt 2 36,oz 3 (.mv (ki 0))] .ret)))))⟩
def M0:Cv:=⟨true,2,26,[.tmp 4],(sf [oz 4 (.mv kF)] (.seq (sf [mt 5 0,oz 6 (.nilc 5),oz 7 (.fa 8 6),oz 8 (.ld false 1 7),oz 9 (.bin .eql 8 (ki 8))] (.cond 9 (sf [oz 4 (.mv kF)] .ret) .skip)) (.seq (.regd [mt 10 0,mt 11 0,oz 12 (.nilc 11),oz 13 (.fa 8 12),oz 14 (.ld false 1 13),mt 15 1,oz 16 (.nilc 10),oz 17 (.fa 0 16),oz 18 (.iaa 8 1 17 14),on (.st 1 18 15)] [some (0,0),some (0,0),some (0,0),some (0,0),some (0,0),some (0,0),some (0,0),some (0,0),some (0,0),none]) (sf [mt 19 0,oz 20 (.nilc 19),oz 21 (.fa 8 20),oz 22 (.ld false 1 21),oz 23 (.bin .add 22 (ki 1)),oz 24 (.nilc 19),oz 25 (.fa 8 24),on (.st 1 25 23)] (sf [oz 4 (.mv kT)] .ret)))))⟩
def J0:Cv:=⟨false,2,25,[],(sf [mt 4 0,oz 5 (.call C5 [4])] (.seq (sf [mt 6 1,oz 7 (.bin .lss 6 (ki 0))] (.cond 7 (rg false [oz 8 (.mkif 9 (.k (.s [115,116,114,105,110,103,115,46,66,117,105,108,100,101,114,46,71,114,111,119,58,32,110,101,103,97,116,105,118,101,32,99,111,117,110,116]))),on (.die)]) .skip)) (sr [mt 9 0,oz 10 (.nilc 9),oz 11 (.fa 1 10),oz 12 (.ld false 1 11),oz 13 (.capn 12),mt 14 0,oz 15 (.nilc 14),oz 16 (.fa 1 15),oz 17 (.ld false 1 16),oz 18 (.len 17),oz 19 (.bin .sub 13 18),mt 20 1,oz 21 (.bin .lss 19 20)] (.cond 21 (rg false [mt 22 0,mt 23 1,oz 24 (.call Gh [22,23])]) .skip))))⟩
def XB:AC:=(sf [oz 13 (.bin .lss 12 11)] (.seq (.cond 13 .skip (.exit 0)) (.seq (.blk 1 (sf [oz 14 (.ias 1 10 12),oz 15 (.ld false 1 14),mt 6 15] (rg false [mt 16 4,oz 17 (.bin .shl 16 (.k (.i .u64 8))),mt 18 6,oz 19 (.cvi .u64 18),oz 20 (.bin .or 17 19),mt 4 20]))) (rg false [oz 21 (.bin .add 12 (ki 1)),mt 12 21]))))
def O0:Cv:=⟨false,1,23,[.tmp 2, .tmp 3],(sf [oz 2 (.mv (.k (.i .u64 0))),oz 3 (.mv (ki 0))] (.seq (sf [mt 7 0,oz 8 (.call JB [7]),oz 9 (.un .not 8)] (.cond 9 (sf [oz 2 (.mv (.k (.i .u64 0))),oz 3 (.mv (ki 1))] .ret) .skip)) (sf [oz 4 (.mv (.k (.i .u64 0)))] (.seq (sf [mt 10 0,oz 11 (.len 10),oz 12 (.mv (ki 0))] (.blk 0 (.loop [4,10,11,12] XB))) (sf [mt 22 4,mt 2 22,oz 3 (.mv (ki 0))] .ret)))))⟩
def YW:AC:=(.blk 1 (sf [mt 4 0,oz 5 (.bin .and 4 (.k (.i .u16 15))),oz 6 (.ixs (.k (.s [48,49,50,51,52,53,54,55,56,57,97,98,99,100,101,102])) 5),oz 7 (.cvc 6),mt 8 3,oz 9 (.bin .add 7 8),mt 3 9] (sf [mt 10 0,oz 11 (.bin .shr 10 (.k (.i .u64 4))),mt 0 11] (sf [mt 12 0,oz 13 (.bin .eql 12 (.k (.i .u16 0)))] (.cond 13 (sf [mt 14 3,mt 2 14] .ret) .skip)))))
def PX:Cv:=⟨false,1,15,[.tmp 2],(sf [oz 2 (.mv (.k (.s [])))] (sf [oz 3 (.mv (.k (.s [])))] (.blk 0 (.loop [0,3] YW))))⟩
def Ft:Cv:=⟨false,1,6,[.tmp 2],(sf [oz 2 (.mv (ki 0))] (sf [mt 3 0,oz 4 (.bin .mul 3 (ki 78913)),oz 5 (.bin .shr 4 (.k (.i .u64 18))),mt 2 5] .ret))⟩
def KP:Cv:=⟨false,1,25,[.tmp 2],(sf [oz 2 (.mv (ki 0))] (.seq (sf [mt 3 0,oz 4 (.bin .geq 3 (.k (.i .u64 4294967296)))] (.cond 4 (sf [mt 5 0,oz 6 (.bin .shr 5 (.k (.i .u64 32))),mt 0 6] (rg false [oz 2 (.mv (ki 32))])) .skip)) (.seq (sf [mt 7 0,oz 8 (.bin .geq 7 (.k (.i .u64 65536)))] (.cond 8 (sf [mt 9 0,oz 10 (.bin .shr 9 (.k (.i .u64 16))),mt 0 10] (rg false [mt 11 2,oz 12 (.bin .add 11 (ki 16)),mt 2 12])) .skip)) (.seq (sf [mt 13 0,oz 14 (.bin .geq 13 (.k (.i .u64 256)))] (.cond 14 (sf [mt 15 0,oz 16 (.bin .shr 15 (.k (.i .u64 8))),mt 0 16] (rg false [mt 17 2,oz 18 (.bin .add 17 (ki 8)),mt 2 18])) .skip)) (sf [mt 19 2,mt 20 0,oz 21 (.cvi .u8 20),oz 22 (.ixs (.k (.s str_1)) 21),oz 23 (.cvi .i64 22),oz 24 (.bin .add 19 23),mt 2 24] .ret)))))⟩
def Fu:Cv:=⟨false,1,4,[.tmp 2],(sf [oz 2 (.mv (ki 0))] (.seq (sf [mt 3 0] (.cond 3 (sf [oz 2 (.mv (ki 1))] .ret) .skip)) (sf [oz 2 (.mv (ki 0))] .ret)))⟩
def PW:Cv:=⟨false,1,12,[.tmp 2],(sf [oz 2 (.mv (.k (.i .u8 0)))] (.seq (sf [mt 3 0,oz 4 (.bin .geq 3 (.k (.i .u8 65))),mt 5 4,og 6 5 (.mv 0),og 7 5 (.bin .leq 6 (.k (.i .u8 70))),oz 8 (.pick 5 7 kF)] (.cond 8 (sf [mt 9 0,oz 10 (.bin .or 9 (.k (.i .u8 32))),mt 2 10] .ret) .skip)) (sf [mt 11 0,mt 2 11] .ret)))⟩
def Oz:Cv:=⟨false,1,11,[.tmp 2],(sf [oz 2 (.mv kF)] (sf [mt 3 0,oz 4 (.len 3),oz 5 (.bin .geq 4 (ki 1)),mt 6 5,og 7 6 (.mv 0),og 8 6 (.len 7),og 9 6 (.bin .leq 8 (ki 8)),oz 10 (.pick 6 9 kF),mt 2 10] .ret))⟩
def fZ:(Ar AP 17):=⟨[[],[112,114,105,118,97,116,101,95,107,101,121],[108,105,115,116,101,110,95,112,111,114,116],[102,119,109,97,114,107],[114,101,112,108,97,99,101,95,112,101,101,114,115],[112,117,98,108,105,99,95,107,101,121],[114,101,109,111,118,101],[117,112,100,97,116,101,95,111,110,108,121],[112,114,101,115,104,97,114,101,100,95,107,101,121],[101,110,100,112,111,105,110,116],[112,101,114,115,105,115,116,101,110,116,95,107,101,101,112,97,108,105,118,101,95,105,110,116,101,114,118,97,108],[114,101,112,108,97,99,101,95,97,108,108,111,119,101,100,95,105,112,115],[97,108,108,111,119,101,100,95,105,112],[112,114,111,116,111,99,111,108,95,118,101,114,115,105,111,110],[116,120,95,98,121,116,101,115],[114,120,95,98,121,116,101,115],[101,114,114,110,111]],rfl⟩
def gl_0:List AV:=fZ.l.map AV.s
theorem gm_0:Bv gl_0=0:=tab_m AV.s (fun _=>rfl) _
theorem gr_0: ∀P H,(aw 17 Au).R P H gl_0 fZ:=fun _ _=>tab_R fZ
def gl_2:List AV:=[.ifc 0 .junk]
theorem gm_2:Bv gl_2=0:=rfl
def gl_3:List AV:=[.ifc 0 .junk]
theorem gm_3:Bv gl_3=0:=rfl
def Aa9:(Ar UInt64 20):=⟨[1,10,100,1000,10000,100000,1000000,10000000,100000000,1000000000,10000000000,100000000000,1000000000000,10000000000000,100000000000000,1000000000000000,10000000000000000,100000000000000000,1000000000000000000,10000000000000000000],rfl⟩
def gl_4:List AV:=Aa9.l.map (fun(x:UInt64)=>AV.i .u64 x.toNat)
theorem gm_4:Bv gl_4=0:=tab_m (fun(x:UInt64)=>AV.i .u64 x.toNat) (fun _=>rfl) _
theorem gr_4: ∀P H,(aw 20 bx).R P H gl_4 Aa9:=fun _ _=>tab_R Aa9
def gll:List (Nat×List AV):=[(0,gl_0),(2,gl_2),(3,gl_3),(4,gl_4)]
def fnl:List (Nat×Cv):=[(Hw,KQ),(Np,T9),(No,T8),(KA,TH),(GT,PZ),(FI,MO),(Mv,VW),(Mu,VV),(Nq,TA),(Nr,TB),(Ph,VY),(LV,RG),(KD,PY),(Ia,LE),(JA,Ow),(II,MK),(EL,Ha),(J7,Om),(vL,AaU),(Hs,TE),(K6,TD),(Pi,VZ),(Pj,Wa),(Jq,RF),(K4,PN),(GQ,MN),(Ff,LF),(IG,MJ),(LW,RN),(LY,RQ),(K7,PS),(Ea,HV),(HZ,LD),(BI,GZ),(Cy,GY),(EJ,GX),(Pg,VX),(Nt,xG),(Xf,xF),(Ns,TC),(HL,RU),(Nw,TM),(FA,RX),(F1,HU),(Eo,JW),(BJ,GF),(Db,Iz),(KE,Qa),(GU,S7),(Jt,RR),(Gw,Jb),(K9,PU),(F4,TG),(Js,RO),(LX,RP),(VM,c_r36_has),(LA,Za),(Ny,TP),(KG,TQ),(GL,JV),(FH,MH),(C5,Hj),(Od,Vi),(Oe,Vj),(L9,SB),(EE,SA),(PE,X9),(Co,Eg),(IE,MG),(FZ,Ix),(Dg,Ja),(GA,RW),(Nx,TO),(IN,MU),(EU,IZ),(D7,F6),(Fe,Hz),(Dn,EY),(EC,S8),(IJ,ML),(DI,MQ),(Pk,Wc),(DH,MP),(ED,S9),(Ic,LG),(DK,MS),(IK,MM),(DJ,MR),(DC,Pz),(Mb,RV),(Di,KV),(Nv,TL),(Dh,KU),(Bt,Py),(Fq,O2),(Bs,Px),(Fo,O1),(Bo,KT),(Fm,TJ),(Eu,Oy),(Et,Ox),(GK,JU),(CE,DR),(CN,Ef),(E4,GC),(Ib,Ot),(J9,Ov),(R2,YV),(J8,Ou),(Hx,KR),(Ju,RY),(IP,TN),(Ma,RT),(Id,LH),(Ga,Iy),(Hr,KO),(IF,MI),(GR,PV),(Do,Hk),(Gx,Jd),(K5,PO),(KF,Qb),(Pm,We),(Jr,RM),(Nu,TF),(LZ,RS),(Dp,EZ),(Cn,Ee),(CD,DQ),(CO,Ei),(DO,FV),(Hu,Ln),(G8,Ke),(K8,PT),(HA,Ol),(JD,O3),(IM,MT),(IL,TK),(E5,GD),(Dx,Fs),(Eb,GG),(Cs,Dq),(Cp,Eh),(EV,Jc),(Ht,Lm),(FP,KS),(D3,M0),(Gi,J0),(JC,O0),(KC,PX),(Dy,Ft),(Hv,KP),(Dz,Fu),(KB,PW),(JB,Oz)]
def prl:List (Nat×(List AV→A6→Option (AV×Option A6))):=[(C8,eX),(De,pCount),(G9,Si),(DP,Tj),(Gh,(mW 119 5)),(Gy,eW),(CB,WL)]
def itl:List Nat:=[1]
def tb:CV:=⟨fun n=>look n fnl,fun n=>look n gll,fun n=>look n prl,itl⟩
abbrev CX(n:Nat)(c:Cv):Prop:=tb.prim n=none∧tb.fns n=some c
theorem Xk:CX Hw KQ:=⟨rfl,rfl⟩
theorem vX:CX Np T9:=⟨rfl,rfl⟩
theorem vW:CX No T8:=⟨rfl,rfl⟩
theorem wF:CX KA TH:=⟨rfl,rfl⟩
theorem lE:CX GT PZ:=⟨rfl,rfl⟩
theorem bE:CX FI MO:=⟨rfl,rfl⟩
theorem AaH:CX Mv VW:=⟨rfl,rfl⟩
theorem AaG:CX Mu VV:=⟨rfl,rfl⟩
theorem vY:CX Nq TA:=⟨rfl,rfl⟩
theorem vZ:CX Nr TB:=⟨rfl,rfl⟩
theorem AaJ:CX Ph VY:=⟨rfl,rfl⟩
theorem rF:CX LV RG:=⟨rfl,rfl⟩
theorem lD:CX KD PY:=⟨rfl,rfl⟩
theorem YL:CX Ia LE:=⟨rfl,rfl⟩
theorem gO:CX JA Ow:=⟨rfl,rfl⟩
theorem bA:CX II MK:=⟨rfl,rfl⟩
theorem QD:CX EL Ha:=⟨rfl,rfl⟩
theorem gK:CX J7 Om:=⟨rfl,rfl⟩
theorem wC:CX Hs TE:=⟨rfl,rfl⟩
theorem wB:CX K6 TD:=⟨rfl,rfl⟩
theorem AaK:CX Pi VZ:=⟨rfl,rfl⟩
theorem AaL:CX Pj Wa:=⟨rfl,rfl⟩
theorem rE:CX Jq RF:=⟨rfl,rfl⟩
theorem kV:CX K4 PN:=⟨rfl,rfl⟩
theorem bD:CX GQ MN:=⟨rfl,rfl⟩
theorem YM:CX Ff LF:=⟨rfl,rfl⟩
theorem aZ:CX IG MJ:=⟨rfl,rfl⟩
theorem rH:CX LW RN:=⟨rfl,rfl⟩
theorem rK:CX LY RQ:=⟨rfl,rfl⟩
theorem kX:CX K7 PS:=⟨rfl,rfl⟩
theorem SL:CX Ea HV:=⟨rfl,rfl⟩
theorem YK:CX HZ LD:=⟨rfl,rfl⟩
theorem QC:CX BI GZ:=⟨rfl,rfl⟩
theorem QB:CX Cy GY:=⟨rfl,rfl⟩
theorem QA:CX EJ GX:=⟨rfl,rfl⟩
theorem AaI:CX Pg VX:=⟨rfl,rfl⟩
theorem wA:CX Ns TC:=⟨rfl,rfl⟩
theorem rO:CX HL RU:=⟨rfl,rfl⟩
theorem wI:CX Nw TM:=⟨rfl,rfl⟩
theorem rR:CX FA RX:=⟨rfl,rfl⟩
theorem SK:CX F1 HU:=⟨rfl,rfl⟩
theorem VQ:CX Eo JW:=⟨rfl,rfl⟩
theorem C1:CX BJ GF:=⟨rfl,rfl⟩
theorem FS:CX Db Iz:=⟨rfl,rfl⟩
theorem lF:CX KE Qa:=⟨rfl,rfl⟩
theorem ME:CX GU S7:=⟨rfl,rfl⟩
theorem rL:CX Jt RR:=⟨rfl,rfl⟩
theorem UK:CX Gw Jb:=⟨rfl,rfl⟩
theorem kZ:CX K9 PU:=⟨rfl,rfl⟩
theorem wE:CX F4 TG:=⟨rfl,rfl⟩
theorem rI:CX Js RO:=⟨rfl,rfl⟩
theorem rJ:CX LX RP:=⟨rfl,rfl⟩
theorem f_cidr_Of:CX LA Za:=⟨rfl,rfl⟩
theorem wL:CX Ny TP:=⟨rfl,rfl⟩
theorem wM:CX KG TQ:=⟨rfl,rfl⟩
theorem VP:CX GL JV:=⟨rfl,rfl⟩
theorem aX:CX FH MH:=⟨rfl,rfl⟩
theorem BH:CX C5 Hj:=⟨rfl,rfl⟩
theorem PI:CX Od Vi:=⟨rfl,rfl⟩
theorem PJ:CX Oe Vj:=⟨rfl,rfl⟩
theorem MF:CX L9 SB:=⟨rfl,rfl⟩
theorem Cc:CX EE SA:=⟨rfl,rfl⟩
theorem R7:CX PE X9:=⟨rfl,rfl⟩
theorem KJ:CX Co Eg:=⟨rfl,rfl⟩
theorem aW:CX IE MG:=⟨rfl,rfl⟩
theorem T3:CX FZ Ix:=⟨rfl,rfl⟩
theorem UJ:CX Dg Ja:=⟨rfl,rfl⟩
theorem rQ:CX GA RW:=⟨rfl,rfl⟩
theorem wK:CX Nx TO:=⟨rfl,rfl⟩
theorem bM:CX IN MU:=⟨rfl,rfl⟩
theorem UI:CX EU IZ:=⟨rfl,rfl⟩
theorem Nz:CX D7 F6:=⟨rfl,rfl⟩
theorem R6:CX Fe Hz:=⟨rfl,rfl⟩
theorem Mw:CX Dn EY:=⟨rfl,rfl⟩
theorem bH:CX EC S8:=⟨rfl,rfl⟩
theorem bB:CX IJ ML:=⟨rfl,rfl⟩
theorem bG:CX DI MQ:=⟨rfl,rfl⟩
theorem AaM:CX Pk Wc:=⟨rfl,rfl⟩
theorem bF:CX DH MP:=⟨rfl,rfl⟩
theorem bK:CX ED S9:=⟨rfl,rfl⟩
theorem YN:CX Ic LG:=⟨rfl,rfl⟩
theorem bJ:CX DK MS:=⟨rfl,rfl⟩
theorem bC:CX IK MM:=⟨rfl,rfl⟩
theorem bI:CX DJ MR:=⟨rfl,rfl⟩
theorem Xr:CX DC Pz:=⟨rfl,rfl⟩
theorem rP:CX Mb RV:=⟨rfl,rfl⟩
theorem Xq:CX Di KV:=⟨rfl,rfl⟩
theorem wH:CX Nv TL:=⟨rfl,rfl⟩
theorem Xp:CX Dh KU:=⟨rfl,rfl⟩
theorem Xo:CX Bt Py:=⟨rfl,rfl⟩
theorem gY:CX Fq O2:=⟨rfl,rfl⟩
theorem Pq:CX Bs Px:=⟨rfl,rfl⟩
theorem gX:CX Fo O1:=⟨rfl,rfl⟩
theorem Xn:CX Bo KT:=⟨rfl,rfl⟩
theorem gU:CX Fm TJ:=⟨rfl,rfl⟩
theorem gQ:CX Eu Oy:=⟨rfl,rfl⟩
theorem gP:CX Et Ox:=⟨rfl,rfl⟩
theorem VO:CX GK JU:=⟨rfl,rfl⟩
theorem Kn:CX CE DR:=⟨rfl,rfl⟩
theorem KI:CX CN Ef:=⟨rfl,rfl⟩
theorem PF:CX E4 GC:=⟨rfl,rfl⟩
theorem gN:CX J9 Ov:=⟨rfl,rfl⟩
theorem f_keys_Of:CX R2 YV:=⟨rfl,rfl⟩
theorem gL:CX J8 Ou:=⟨rfl,rfl⟩
theorem Xl:CX Hx KR:=⟨rfl,rfl⟩
theorem rS:CX Ju RY:=⟨rfl,rfl⟩
theorem wJ:CX IP TN:=⟨rfl,rfl⟩
theorem rN:CX Ma RT:=⟨rfl,rfl⟩
theorem YO:CX Id LH:=⟨rfl,rfl⟩
theorem T4:CX Ga Iy:=⟨rfl,rfl⟩
theorem Xi:CX Hr KO:=⟨rfl,rfl⟩
theorem aY:CX IF MI:=⟨rfl,rfl⟩
theorem lA:CX GR PV:=⟨rfl,rfl⟩
theorem Hi:CX Do Hk:=⟨rfl,rfl⟩
theorem UM:CX Gx Jd:=⟨rfl,rfl⟩
theorem kW:CX K5 PO:=⟨rfl,rfl⟩
theorem lG:CX KF Qb:=⟨rfl,rfl⟩
theorem AaN:CX Pm We:=⟨rfl,rfl⟩
theorem rG:CX Jr RM:=⟨rfl,rfl⟩
theorem wD:CX Nu TF:=⟨rfl,rfl⟩
theorem rM:CX LZ RS:=⟨rfl,rfl⟩
theorem Mx:CX Dp EZ:=⟨rfl,rfl⟩
theorem KH:CX Cn Ee:=⟨rfl,rfl⟩
theorem Km:CX CD DQ:=⟨rfl,rfl⟩
theorem KL:CX CO Ei:=⟨rfl,rfl⟩
theorem Oh:CX DO FV:=⟨rfl,rfl⟩
theorem SN:CX Hu Ln:=⟨rfl,rfl⟩
theorem QE:CX G8 Ke:=⟨rfl,rfl⟩
theorem kY:CX K8 PT:=⟨rfl,rfl⟩
theorem gJ:CX HA Ol:=⟨rfl,rfl⟩
theorem gZ:CX JD O3:=⟨rfl,rfl⟩
theorem bL:CX IM MT:=⟨rfl,rfl⟩
theorem wG:CX IL TK:=⟨rfl,rfl⟩
theorem PH:CX E5 GD:=⟨rfl,rfl⟩
theorem MB:CX Dx Fs:=⟨rfl,rfl⟩
theorem Lg:CX Eb GG:=⟨rfl,rfl⟩
theorem IQ:CX Cs Dq:=⟨rfl,rfl⟩
theorem KK:CX Cp Eh:=⟨rfl,rfl⟩
theorem UL:CX EV Jc:=⟨rfl,rfl⟩
theorem SM:CX Ht Lm:=⟨rfl,rfl⟩
theorem Xm:CX FP KS:=⟨rfl,rfl⟩
theorem EW:CX D3 M0:=⟨rfl,rfl⟩
theorem PG:CX Gi J0:=⟨rfl,rfl⟩
theorem gW:CX JC O0:=⟨rfl,rfl⟩
theorem lC:CX KC PX:=⟨rfl,rfl⟩
theorem MC:CX Dy Ft:=⟨rfl,rfl⟩
theorem Xj:CX Hv KP:=⟨rfl,rfl⟩
theorem MD:CX Dz Fu:=⟨rfl,rfl⟩
theorem lB:CX KB PW:=⟨rfl,rfl⟩
theorem gV:CX JB Oz:=⟨rfl,rfl⟩
end
section
open Go.Proofs Go.RowKit
set_option maxHeartbeats 2000000 in
set_option maxRecDepth 1000000 in
theorem grow_run:xZ cu 223 5:=by
 intro b n w h1 hb hf hn;obtain⟨cs,hrun,hle,hmax⟩:=Lib.run_makeNoZero (P:=cu) w.drew #[3] 117 5 (by kernel_rfl) n hn;refine⟨cs,hle,?_⟩;have hw:tx tz (tx tz 0+(n:Int))=n:=by
  rw[IntKind.wrap_i64,IntKind.wrap_i64];omega
 have hcall:(callFunc 228 #[.int .i64 (tx tz (tx tz 0+(n:Int)))]).run cu w.drew= .ok (.value (.slice (some ⟨w.drew.heap.size,0,none⟩) n cs.size)) (w.drew.drew.drew.alloc (.cells cs 5)):=by
  rw[hw,run_callFunc_extern Tryz.func228 (by kernel_rfl) (by kernel_rfl) (by kernel_rfl) (e:=Extern.BytealgMakeNoZero.makeNoZero #[3] #[117]) (by kernel_rfl),hrun]
  rfl
 have c1:w.drew.cell? ⟨b,1,none⟩=some (.slice none 0 0):=h1;have c2:(w.alloc (.cells cs 5)).cell? ⟨b,1,none⟩=some (.slice none 0 0):=by
  have:(w.alloc (.cells cs 5)).heap[b]? =w.heap[b]? :=(Lib.alloc_old w _ b hb);simp only[gg,this];exact h1
 have f2:(w.alloc (.cells cs 5)).frozen? ⟨b,1,none⟩=false:=by
  have:(w.alloc (.cells cs 5)).heap[b]? =w.heap[b]? :=(Lib.alloc_old w _ b hb);simp only[j1,this];exact hf
 have hcopy: ∀W:World,(oy #[117,117] 3 #[.slice (some ⟨w.heap.size,0,none⟩) 0 cs.size, .slice none 0 0]).run cu W= .ok (goInt 0) W:=
  fun W=>run_copy_none W 117 117 3 5 _ _ 0 cs.size 0 0 (by kernel_rfl) (by kernel_rfl) rfl
 clear hw
 go_enter Tryz.func223,Tryz.ntmps223
 go_wp2
 go_region
 all_goals (go_wp2;go_end0;exact⟨rfl,rfl⟩)
end
section
set_option maxRecDepth 100000
set_option maxHeartbeats 2000000
open Go.Shelf Go.Proofs
def ren_parse:Ren:=⟨fun|14=>158|16=>176|17=>177|19=>194|20=>195|21=>196|22=>197|23=>198|24=>199|25=>214|26=>215|27=>216|28=>225|29=>229|30=>200|31=>201|32=>202|33=>203|34=>217|35=>218|36=>219|37=>220|38=>221|39=>226|40=>227|n=>n,fun|0=>0|2=>2|3=>3|4=>4|5=>5|9=>9|20=>20|21=>21|22=>44|24=>121|25=>206|34=>245|36=>196|37=>117|39=>247|44=>263|47=>155|48=>274|50=>276|52=>250|55=>253|59=>266|60=>24|61=>267|65=>22|66=>280|67=>124|n=>n,fun|0=>2|1=>3|2=>4|3=>7|4=>8|n=>n⟩
theorem VE:LaysPu.n14 cu ren_parse where
 mixed:=by kernel_rfl
 f14:=Tryz.func158.trans (ue some (by kernel_rfl))
 f16:=Tryz.func176.trans (ue some (by kernel_rfl))
 f17:=Tryz.func177.trans (ue some (by kernel_rfl))
 f19:=Tryz.func194.trans (ue some (by kernel_rfl))
 f20:=Tryz.func195.trans (ue some (by kernel_rfl))
 f21:=Tryz.func196.trans (ue some (by kernel_rfl))
 f22:=Tryz.func197.trans (ue some (by kernel_rfl))
 f23:=Tryz.func198.trans (ue some (by kernel_rfl))
 f24:=Tryz.func199.trans (ue some (by kernel_rfl))
 f25:=Tryz.func214.trans (ue some (by kernel_rfl))
 f26:=Tryz.func215.trans (ue some (by kernel_rfl))
 f27:=Tryz.func216.trans (ue some (by kernel_rfl))
 f28:=Tryz.func225.trans (ue some (by kernel_rfl))
 f29:=Tryz.func229.trans (ue some (by kernel_rfl))
 f30:=Tryz.func200.trans (ue some (by kernel_rfl))
 f31:=Tryz.func201.trans (ue some (by kernel_rfl))
 f32:=Tryz.func202.trans (ue some (by kernel_rfl))
 f33:=Tryz.func203.trans (ue some (by kernel_rfl))
 f34:=Tryz.func217.trans (ue some (by kernel_rfl))
 f35:=Tryz.func218.trans (ue some (by kernel_rfl))
 f36:=Tryz.func219.trans (ue some (by kernel_rfl))
 f37:=Tryz.func220.trans (ue some (by kernel_rfl))
 f38:=Tryz.func221.trans (ue some (by kernel_rfl))
 f39:=Tryz.func226.trans (ue some (by kernel_rfl))
 f40:=Tryz.func227.trans (ue some (by kernel_rfl))
 t0:=Tryz.underlying0
 a0:=Tryz.isAgg0
 z0:=Tryz.sizeOf0
 v0:=Tryz.zeroValue0
 i0:=by kernel_rfl
 t2:=Tryz.underlying2
 a2:=Tryz.isAgg2
 z2:=Tryz.sizeOf2
 v2:=Tryz.zeroValue2
 i2:=by kernel_rfl
 t3:=pa
 a3:=Tryz.isAgg3
 z3:=Tryz.sizeOf3
 v3:=Tryz.zeroValue3
 i3:=by kernel_rfl
 t4:=pb
 a4:=Tryz.isAgg4
 z4:=Tryz.sizeOf4
 v4:=Tryz.zeroValue4
 i4:=by kernel_rfl
 t5:=Tryz.underlying5
 a5:=Tryz.isAgg5
 z5:=Tryz.sizeOf5
 v5:=Tryz.zeroValue5
 i5:=by kernel_rfl
 t9:=Tryz.underlying9
 a9:=Tryz.isAgg9
 z9:=Tryz.sizeOf9
 v9:=Tryz.zeroValue9
 i9:=by kernel_rfl
 t20:=Tryz.underlying20
 a20:=Tryz.isAgg20
 z20:=Tryz.sizeOf20
 v20:=Tryz.zeroValue20
 i20:=by kernel_rfl
 t21:=Tryz.underlying21
 a21:=Tryz.isAgg21
 z21:=Tryz.sizeOf21
 v21:=Tryz.zeroValue21
 i21:=by kernel_rfl
 t22:=Tryz.underlying44
 a22:=Tryz.isAgg44
 z22:=Tryz.sizeOf44
 v22:=Tryz.zeroValue44
 i22:=by kernel_rfl
 t24:=oi
 a24:=Tryz.isAgg121
 z24:=Tryz.sizeOf121
 v24:=Tryz.zeroValue121
 i24:=by kernel_rfl
 t25:=Tryz.underlying206
 a25:=Tryz.isAgg206
 z25:=Tryz.sizeOf206
 v25:=Tryz.zeroValue206
 i25:=by kernel_rfl
 t34:=Tryz.underlying245
 a34:=Tryz.isAgg245
 z34:=Tryz.sizeOf245
 v34:=Tryz.zeroValue245
 i34:=by kernel_rfl
 c34:=by kernel_rfl
 t36:=rq
 a36:=Tryz.isAgg196
 z36:=Tryz.sizeOf196
 v36:=Tryz.zeroValue196
 i36:=by kernel_rfl
 t37:=Tryz.underlying117
 a37:=Tryz.isAgg117
 z37:=Tryz.sizeOf117
 v37:=Tryz.zeroValue117
 i37:=by kernel_rfl
 t39:=Tryz.underlying247
 a39:=Tryz.isAgg247
 z39:=Tryz.sizeOf247
 v39:=Tryz.zeroValue247
 i39:=by kernel_rfl
 t44:=Tryz.underlying263
 a44:=Tryz.isAgg263
 z44:=Tryz.sizeOf263
 v44:=Tryz.zeroValue263
 i44:=by kernel_rfl
 t47:=Tryz.underlying155
 a47:=Tryz.isAgg155
 z47:=Tryz.sizeOf155
 v47:=Tryz.zeroValue155
 i47:=by kernel_rfl
 t48:=Tryz.underlying274
 a48:=Tryz.isAgg274
 z48:=Tryz.sizeOf274
 v48:=Tryz.zeroValue274
 i48:=by kernel_rfl
 t50:=Tryz.underlying276
 a50:=Tryz.isAgg276
 z50:=Tryz.sizeOf276
 v50:=Tryz.zeroValue276
 i50:=by kernel_rfl
 t52:=Tryz.underlying250
 a52:=Tryz.isAgg250
 z52:=Tryz.sizeOf250
 v52:=Tryz.zeroValue250
 i52:=by kernel_rfl
 t55:=Tryz.underlying253
 a55:=Tryz.isAgg253
 z55:=Tryz.sizeOf253
 v55:=Tryz.zeroValue253
 i55:=by kernel_rfl
 t59:=rt
 a59:=Tryz.isAgg266
 z59:=Tryz.sizeOf266
 v59:=Tryz.zeroValue266
 i59:=by kernel_rfl
 t60:=Tryz.underlying24
 a60:=Tryz.isAgg24
 z60:=Tryz.sizeOf24
 v60:=Tryz.zeroValue24
 i60:=by kernel_rfl
 t61:=Tryz.underlying267
 a61:=Tryz.isAgg267
 z61:=Tryz.sizeOf267
 t65:=Tryz.underlying22
 a65:=Tryz.isAgg22
 z65:=Tryz.sizeOf22
 v65:=Tryz.zeroValue22
 i65:=by kernel_rfl
 t66:=Tryz.underlying280
 a66:=Tryz.isAgg280
 z66:=Tryz.sizeOf280
 v66:=Tryz.zeroValue280
 i66:=by kernel_rfl
 t67:=Tryz.underlying124
 a67:=Tryz.isAgg124
 z67:=Tryz.sizeOf124
 v67:=Tryz.zeroValue124
 i67:=by kernel_rfl
 g0:=by kernel_rfl
 m0:=by kernel_rfl
 g1:=by kernel_rfl
 m1:=by kernel_rfl
 g2:=by kernel_rfl
 m2:=by kernel_rfl
 g3:=by kernel_rfl
 m3:=by kernel_rfl
 g4:=by kernel_rfl
 m4:=by kernel_rfl
theorem pu_run:oW cu 158 2 3:=by
 intro l w eS eR hl c1 t1 c2 t2;unfold GM;cases h:Lib.parseUintB 64 l with
 |ok u=>
  refine(Any.strconv_ParseUint_10_at64_ok VE ⟨l.toArray⟩ (by show l.toArray.size≤_;simp only[lm];omega) u (by simpa using h) w).mono ?_;rintro e w' ⟨rfl,hw⟩;refine⟨.nilIface,rfl,rfl,?_⟩;rcases hw with rfl|rfl
  ·exact RowKit.Below.refl _ _
  ·exact Lib.bytesWorld_below _ _ _
 |range=>
  refine(Any.strconv_ParseUint_10_at64_range VE ⟨l.toArray⟩ (by show l.toArray.size≤_;simp only[lm];omega) (by simpa using h) eR w c2 (.inr t2)).mono ?_;rintro e w' ⟨k,rfl,_,_,hb⟩;exact⟨_,rfl,⟨_,_,rfl⟩,hb⟩
 |_=>
  refine(Any.strconv_ParseUint_10_at64_syntax VE ⟨l.toArray⟩ (by show l.toArray.size≤_;simp only[lm];omega) (by simpa using h) eS w c1 (.inr t1)).mono ?_;rintro e w' ⟨k,rfl,_,_,hb⟩;exact⟨_,rfl,⟨_,_,rfl⟩,hb⟩
def ren_index:Ren:=⟨fun|217=>140|219=>113|224=>147|225=>148|266=>162|267=>149|314=>166|n=>n,fun|3=>3|4=>4|5=>5|9=>9|46=>196|51=>24|146=>212|n=>n,fun|1=>1|n=>n⟩
theorem Aa3:Lays.n219 cu ren_index where
 mixed:=by kernel_rfl
 f217:=Tryz.func140.trans (ue some (by kernel_rfl))
 f219:=Tryz.func113.trans (ue some (by kernel_rfl))
 f224:=Tryz.func147.trans (ue some (by kernel_rfl))
 f225:=Tryz.func148.trans (ue some (by kernel_rfl))
 f266:=Tryz.func162.trans (ue some (by kernel_rfl))
 f267:=Tryz.func149.trans (ue some (by kernel_rfl))
 f314:=Tryz.func166.trans (ue some (by kernel_rfl))
 t3:=pa
 a3:=Tryz.isAgg3
 z3:=Tryz.sizeOf3
 v3:=Tryz.zeroValue3
 t4:=pb
 a4:=Tryz.isAgg4
 z4:=Tryz.sizeOf4
 v4:=Tryz.zeroValue4
 t5:=Tryz.underlying5
 a5:=Tryz.isAgg5
 z5:=Tryz.sizeOf5
 v5:=Tryz.zeroValue5
 t9:=Tryz.underlying9
 a9:=Tryz.isAgg9
 z9:=Tryz.sizeOf9
 v9:=Tryz.zeroValue9
 t46:=rq
 a46:=Tryz.isAgg196
 z46:=Tryz.sizeOf196
 v46:=Tryz.zeroValue196
 t51:=Tryz.underlying24
 a51:=Tryz.isAgg24
 z51:=Tryz.sizeOf24
 v51:=Tryz.zeroValue24
 t146:=Tryz.underlying212
 a146:=Tryz.isAgg212
 z146:=Tryz.sizeOf212
 v146:=Tryz.zeroValue212
 g1:=by kernel_rfl
theorem ix_run:oY cu 113 1:=by
 intro a b w m hl hm;have h:=Any.stringslite_Index Aa3 ⟨a.toArray⟩ ⟨b.toArray⟩ m w (by show a.toArray.size<_;simpa using hl) hm;simp at h;exact h
end
section
set_option maxRecDepth 100000
set_option maxHeartbeats 4000000
open Go.Proofs
theorem k_all:fnl.all (fun x=>okFn (okOp cu) cu x.2 x.1)=true:=by kernel_rfl
theorem JQ:hQ cu C8=some mr:=by kernel_rfl
theorem L5:hQ cu De=some ot:=by kernel_rfl
theorem Q2:hQ cu G9=some o8:=by kernel_rfl
theorem NZ:hQ cu DP=some nq:=by kernel_rfl
theorem P7:wQ cu Gh=true:=by kernel_rfl
theorem UG:wQ cu Gy=true:=by kernel_rfl
theorem M8:wQ cu CB=true:=by kernel_rfl
theorem fits:Fits (okOp cu) cu tb:=by
 refine⟨by kernel_rfl,fun ao o h=>okOp_spec ao o h,fun _ _ _ h=>zJ h,fun g p h=> ?_,fun g cs h=>(by
  have hm:=Tp h;have all: ∀x∈gll,Bv x.2=0:=by
   simp only[gll,l9];exact⟨gm_0,gm_2,gm_3,gm_4,fun x h=>(by cases h)⟩
  exact all _ hm),fun g fn h=> ?_⟩
 ·have hm:=Tp h;have all: ∀x∈prl,Fh cu tb fun g args h=>if g=x.1 then x.2 args h else none:=by
   simp only[prl,l9];exact⟨eP JQ,yY L5,prim_same Q2,qG NZ,prim_grow P7 grow_run,yX UG rfl rfl pu_run,tZ M8 (List.Mem.head _) ix_run,fun x h=>(by cases h)⟩
  exact all _ hm
 have hm:=Tp h;exact cb.1 k_all _ hm
end
section
theorem lV{x:Int}(h0: -9223372036854775808≤x)(h1:x<9223372036854775808):tx tz x=x:=by
 simp only[tx,gc,ko];simp;omega
theorem B6{m:Nat}(h:m<9223372036854775808):tx tz (m:Int)=m:=lV (by omega) (by omega)
section
variable{α:Type}
theorem TZ{l:List α}{n:Nat}(h:n≤l.length):IW l none (some (n:Int))=some (l.take n):=by
 simp[IW,SV,h]
theorem HD{l:List α}{n:Nat}(h:n≤l.length):IW l (some (n:Int)) none=some (l.drop n):=by
 simp[IW,SV,h]
theorem subL_mid{l:List α}{m n:Nat}(h:m≤n)(h':n≤l.length):IW l (some (m:Int)) (some (n:Int))=some ((l.take n).drop m):=by
 simp[IW,SV,h,h']
theorem slG_from{l:List α}{n:Nat}(h:n≤l.length):slG (.mk l) (some (n:Int)) none=some (.mk (l.drop n)):=by
 simp[slG,SV,qn,h,Yz]
theorem yN{l:List α}{n:Nat}(h:n≤l.length):slG (.mk l) none (some (n:Int))=some (.mk (l.take n)):=by
 simp[slG,SV,qn,h,Yz]
theorem By{l:List α}{n:Nat}:DN l (n:Int)=l[n]? :=by simp[DN]
theorem E7{n k:Nat}(h:n<k):Dl k (n:Int)=some n:=by simp[Dl,h]
theorem JE{bytes:Nat}{g:GS α}{x:α}(h:(g.l.length+1)*bytes≤Ci):SS bytes g [x]=some (.mk (g.l++[x])):=by
 unfold SS;rw[t6 (by simpa using h)];cases g<;>rfl
@[simp] theorem C0 {l : List α} : (GS.mk l).l = l := rfl
@[simp] theorem GS.l_nil : (GS.nil : GS α).l = [] := rfl
theorem K0{σ β:Type}{F:σ→Option (σ⊕β)}(m:σ→Nat)(I:σ→Prop)(Q:β→Prop)
  (step: ∀s,I s→(∃s',F s=some (.inl s')∧I s'∧m s'<m s)∨ ∃b,F s=some (.inr b)∧Q b): ∀{s},I s→ ∃b,iter F s=some b∧Q b:=by
 have key: ∀n s,m s<n→I s→ ∃b,iter F s=some b∧Q b:=by
  intro n
  induction n with
  |zero=>intro s h;omega
  |succ n ih=>
   intro s h hI;rcases step s hI with ⟨s',e,hI',hm⟩|⟨b,e,hq⟩
   ·rw[Fd e];exact ih s' (by omega) hI'
   ·exact⟨b,CQ e,hq⟩
 intro s hI;exact key _ s (Nat.lt_succ_self _) hI
theorem CP{σ β γ:Type}{F:σ→Option (σ⊕β)}{K:β→Option γ}{r:Option γ}{s:σ}(m:σ→Nat)(I:σ→Prop)(Q:β→Prop)(h:I s)
  (step: ∀s,I s→(∃s',F s=some (.inl s')∧I s'∧m s'<m s)∨ ∃b,F s=some (.inr b)∧Q b) (fin: ∀b,Q b→K b=r):(iter F s).bind K=r:=by
 obtain⟨b,e,hb⟩:=K0 m I Q step h;rw[e];exact fin b hb
theorem fM{σ β:Type}{F:σ→Option (σ⊕β)}{b:β}(m:σ→Nat)(I:σ→Prop)
  (step: ∀s,I s→(∃s',F s=some (.inl s')∧I s'∧m s'<m s)∨F s=some (.inr b)) {s:σ} (h:I s):iter F s=some b:=by
 obtain⟨b',e,rfl⟩:=K0 m I (fun b'=>b'=b) (fun s hs=>(step s hs).imp_right fun e=>⟨b,e,rfl⟩) h;exact e
end
def AT(c:UInt8):AP→List AP
 |[]=>[[]]
 |x::l=>if x=c then []::AT c l else match AT c l with
  |[]=>[[x]]
  |h::t=>(x::h)::t
theorem Dd{c:UInt8}: ∀l,AT c l≠[]
 |[]=>by simp[AT]
 |x::l=>by
  simp only[AT]
  split
  ·simp
  ·split<;>simp
theorem Gn{c:UInt8}: ∀{p:AP},(∀x∈p,x≠c)→AT c p=[p]
 |[],_=>rfl
 |x::p,h=>by
  simp only[AT,t7 (h x bg),Gn fun y hy=>h y (a8 _ hy)]
theorem Fi{c:UInt8}{q:AP}: ∀{p:AP},(∀x∈p,x≠c)→AT c (p++c::q)=p::AT c q
 |[],_=>by simp[AT]
 |x::p,h=>by
  simp only[cd,AT,t7 (h x bg),Fi fun y hy=>h y (a8 _ hy)]
theorem QY{c:UInt8}: ∀l:AP,(AT c l).length=l.countP (fun x=>x==c)+1
 |[]=>rfl
 |x::l=>by
  have ih:=QY (c:=c) l;simp only[AT]
  by_cases hx:x=c
  ·rw[t6 hx,ba,ih,List.countP_cons_of_pos (by simp[hx])]
  ·rw[t7 hx,List.countP_cons_of_neg (by simp[hx])]
   split
   ·rename_i e;exact absurd e (Dd l)
   ·rename_i e;rw[e]at ih;simpa using ih
theorem XV{c:UInt8}(l:AP):(AT c l).length≤l.length+1:=by
 rw[QY];have:=List.countP_le_length (p:=fun x=>x==c) (l:=l);omega
theorem Pn(l:AP)(c:UInt8):((∀x∈l,x≠c)∧MZ l c= -1)∨ ∃p q,l=p++c::q∧(∀x∈p,x≠c)∧MZ l c=(p.length:Int):=by
 unfold MZ;cases e:l.findIdx? (fun x=>x==c)with
 |none=>
  left;rw[j9]at e;exact⟨fun x hx=>by simpa using e x hx,rfl⟩
 |some i=>
  right;rw[ir]at e;obtain⟨h,h1,h2⟩:=e;have hc:l[i]=c:=by simpa using h1
  refine⟨l.take i,l.drop (i+1),?_,?_,?_⟩
  ·rw[←hc,←da h,c9]
  ·intro x hx;obtain⟨j,hj,rfl⟩:=gm.1 hx;rw[aq]at hj;have:=h2 j (by omega);rw[kd];simpa using this
  ·rw[aq];simp only[Int.ofNat_inj];omega
theorem set_at{α:Type}{d:List α}{x y:α}{r:List α}:(d++x::r).set d.length y=d++y::r:=by
 rw[qg _ _ (bc _),jz,jo]
theorem drop_at{α:Type}{p q:List α}{x:α}:(p++x::q).drop (p.length+1)=q:=by
 rw[←cw,fh rfl];rfl
theorem take_at{α:Type}{p q:List α}:(p++q).take p.length=p:=ij rfl
theorem get_at{α:Type}{d:List α}{x:α}{r:List α}:(d++x::r)[d.length]? =some x:=by
 rw[bo (bc _),jz];rfl
end
end
end Go.Proofs.YtfdkkkdbknbmaaaGreatDoor.Am
