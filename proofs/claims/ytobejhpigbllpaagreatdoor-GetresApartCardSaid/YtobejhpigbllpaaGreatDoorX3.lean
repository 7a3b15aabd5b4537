/-
  Slices of one's own cells that are handed on as they are; a slice as an array; tests that write.
  strconv.ParseUint(s, 10, 64) as a function that the machine takes as it is said.
  Functions that the machine takes as they are said, as typed ones.
  Structures, as Lean's and as types of the machine's. Printed by mkwalk.py.
  The functions: their numbers, their codes. Printed by mkwalk.py.
  strings.Builder's grow, at a builder without a buffer. Printed by mkwalk.py.
  Functions of Go's library: the kit's contracts, at this program. Printed by mkpu.py.
  Each code is the program's. Printed by mkwalk.py.
  What a law is given, as the machine's values: a reading is a value of the type, all of it memory that nobody writes.
  A law's row, out of what the machine comes to.
  From the model's values to typed ones; a law that answers true.
  Plain laws: numbers, pieces of lists, a text split at a byte.
-/
import Derived.Below
import Derived.Lib.ParseIntBCases
import Derived.Lib.Index
import Derived.Test.YtobejhpigbllpaaGreatDoorProg
import Derived.Lib.MakeNoZero
import Derived.Lib.Builder
import Derived.Lib.Walk
import Derived.WalkKit
import Derived.Laws.Externs
import Derived.Laws.IdiomCopy
import Derived.KernelRfl
import Derived.Shelf.Strings.Search2
import Derived.ProofKit
import Derived.Deep.Slices
import Derived.DataReads
import Derived.Carry
import Derived.Test.YtobejhpigbllpaaGreatDoorX2
namespace Go.Proofs.YtobejhpigbllpaaGreatDoor.Am
section
variable{tb:CD}{Γ:Cx}{a b:AO}
theorem Y4{sz:Nat}: ∀(k:Nat) (css:List (List AV)) (cs:List AV),css.length=k→(∀e∈css,e.length=sz)→cs.take (k*sz)=css.flatten→BI sz k cs=css
 |0,css,cs,h,_,_=>by rw[List.eq_nil_of_length_eq_zero h];rfl
 |k+1,y::css,cs,hk,hall,hc=>by
  have hy:=hall y (by simp)
  simp only[BI]
  simp only[List.flatten_cons]at hc
  have hA:cs.take sz=y:=by
   have:=congrArg (List.take sz) hc
   rw[List.take_take,Nat.min_eq_left (by rw[Nat.succ_mul];omega),List.take_left' hy]at this
   exact this
  have hB:(cs.drop sz).take (k*sz)=css.flatten:=by
   have:=congrArg (List.drop sz) hc
   rw[List.drop_left' hy,List.drop_take,Nat.succ_mul,Nat.add_sub_cancel]at this
   exact this
  rw[hA,Y4 k css (cs.drop sz) (by simpa using hk) (fun e he=>hall e (by simp[he])) hB]
theorem sV{t u:T}{x:t.α}{j o o' k m n N sz:Nat}{ps:List (Nat×AJ)}(F:AL t (A2 n u) o')(hsz:sz=u.sz)(ha:Cv tb Γ a (.oc j (o+k*sz) sz m))(hj:AG Γ.ss j=some (.cells ps))(hp:It ps o=some (N, .val t x,o'))(hkm:k+m≤n)
  {E:Oc} {rv:Nat→AV} {fp:Fp} {f:Fr} {H:Av} (R:Bm E Γ rv fp f H):
  ∃id els,id<H.length∧fp j id∧eval tb f a= .ocel u.sz id (o+k*u.sz) m∧Es H u.sz (.ocel u.sz id (o+k*u.sz) m)=some els∧C1 u (Pf E Γ.ss fp H) H els (((F.get x).l.drop k).take m):=by
 subst hsz
 obtain⟨l,id,e,hv⟩:=ha E rv fp f H R
 obtain⟨cs,h0,h2,h3⟩:=F2 R hj e
 obtain⟨b',c,e0,e1,e2,e3,e4,e5,_⟩:=Fb h3 hp
 have hfp:fp j id:=(h0 id).2 rfl
 have hlt:=(R.fplt j id l hfp).1
 have hlen:=t.len e4
 have hle:=F.le
 have hszA:(A2 n u).sz=n*u.sz:=rfl
 rw[hszA]at hle
 have hmul:k*u.sz+m*u.sz≤n*u.sz:=by rw[←Nat.add_mul];exact Nat.mul_le_mul_right _ hkm
 obtain⟨css,q1,q2⟩:=F.getR e4
 have hlc:css.length=n:=by rw[q2.length];exact(F.get x).len
 have hs1:=e5 o' (n*u.sz) (by omega)
 rw[←e1]at hs1
 have hch:BI u.sz n (cs.drop o)=css:=Y4 n css (cs.drop o) hlc q2.lens (by rw[show(cs.drop o).take (n*u.sz)=sub cs o (n*u.sz)from rfl,hs1,←q1];rfl)
 have hsub:=Nr (sz:=u.sz) (len:=n) (c:=k) (d:=k+m) (l:=cs.drop o) (by omega) hkm
 refine⟨id,(css.take (k+m)).drop k,hlt,hfp,hv,?_,?_⟩
 ·simp only[Es,h2,Option.bind_some]
  rw[if_pos ⟨trivial,by omega⟩]
  rw[←hch,hsub,List.drop_drop,Nat.add_sub_cancel_left]
 ·have:=(q2.take (n:=k+m)).drop (n:=k)
  simp only[List.drop_take,Nat.add_sub_cancel_left]at this ⊢
  exact this
theorem a_s{t u:T}{x:t.α}{j o o' k m n N sz:Nat}{ps:List (Nat×AJ)}(F:AL t (A2 n u) o')(hsz:sz=u.sz)(ha:Cv tb Γ a (.oc j (o+k*sz) sz m))(hj:AG Γ.ss j=some (.cells ps))(hp:It ps o=some (N, .val t x,o'))(hkm:k+m≤n):
  wJ tb Γ a (T.sl u) (.mk (((F.get x).l.drop k).take m)):=by
 intro E rv fp f H R
 obtain⟨id,els,h1,_,h3,h4,h5⟩:=sV F hsz ha hj hp hkm R
 rw[h3]
 exact Jc.2 ⟨h1,els,h4,h5.mono fun i hi=>⟨Pf.lt R.le hi,rfl⟩⟩
theorem dU{c:Prop} [Decidable c]{g:Nat}{As Rs:List T}{F:Ce As→Option (Ce Rs)}{l:List AO}{x:Ce As}(sp:Spec tb g As Rs F)(fl:RK Rs)(hx:c→XF tb Γ As l x):Fi tb Γ (.call g l) (if c then F x else none) fun r=>rE Rs r:=by
 intro E rv fp f H R r hr
 split at hr
 ·rename_i hc;exact lK sp fl (hx hc) E rv fp f H R r hr
 ·cases hr
theorem KB{c:Prop} [Decidable c]{g:Nat}{As:List T}{t:T}{F:Ce As→Option (Ce [t])}{l:List AO}{x:Ce As}(sp:Spec tb g As [t] F)(fl:RK [t])(hx:c→XF tb Γ As l x):Fi tb Γ (.call g l) (if c then F x else none) fun r:t.α=> .val t r:=dU sp fl hx
theorem oN{c:Prop} [Decidable c]{g:Nat}{As:List T}{t u:T}{Rs:List T}{F:Ce As→Option (Ce (t::u::Rs))}{l:List AO}{x:Ce As}(sp:Spec tb g As (t::u::Rs) F)(fl:RK (t::u::Rs))(hx:c→XF tb Γ As l x):
  Fi tb Γ (.call g l) (if c then F x else none) fun r=> .tup (mQ (t::u::Rs) r):=dU sp fl hx
theorem n_oc{t u:T}{x:t.α}{j o o' k m n N sz:Nat}{ps:List (Nat×AJ)}(F:AL t (A2 n u) o')(hsz:sz=u.sz)(ha:Cv tb Γ a (.oc j (o+k*sz) sz m))(hj:AG Γ.ss j=some (.cells ps))(hp:It ps o=some (N, .val t x,o'))(hkm:k+m≤n):
  vZ tb Γ a u (((F.get x).l.drop k).take m):=by
 intro E rv fp f H R
 obtain⟨id,els,h1,_,h3,h4,h5⟩:=sV F hsz ha hj hp hkm R
 exact⟨els,by rw[h3];exact h4,h5⟩
theorem M_if{c:Prop} [Decidable c]{d:Option Nat}{o:Hj}{α:Type}{A:Option α}{G:α→Cx}(h:c→WG tb Γ d o A G):WG tb Γ d o (if c then A else none) G:=by
 intro E rv fp f H R r hr
 split at hr
 ·rename_i hc;exact h hc E rv fp f H R r hr
 ·cases hr
variable{ks:List Kf}{ρ:Type}{Q:Lf ρ}
def Ab{q:Bool}{d n:Nat}{l:List AQ}{φ:AJ}(h:B3 Γ.ts n=some φ)(k:Aa tb (Γ.push d φ) (rg q l) ks Q):Aa tb Γ (rg q (⟨some d,none, .mv (.t n)⟩::l)) ks Q:=Aj (A3 (Af h)) k
def Ai{q:Bool}{x y:AC}(s:Aa tb Γ x (.seq y::ks) Q):Aa tb Γ (rg q []) (.seq (.seq x y)::ks) Q:=Ac (Ad s)
theorem A9{op:BinOp}{a b:AO}{x y:Int}(h:lG op=true)(ha:Cv tb Γ a (.val (T.int .i64) x))(hb:Cv tb Γ b (.val (T.int .i64) y)):Fi tb Γ (.bin op a b) (some (zX op x y)) fun z=> .val T.b z:=Ey (I:=IT.int .i64) h ha hb
abbrev oz(d:Nat)(x:Hj):AQ:=⟨some d,none,x⟩
abbrev on(x:Hj):AQ:=⟨none,none,x⟩
def oY(n:Int):AR:=(Utf8.encode n).data.toList
theorem h_cvcE{I:IT}{x:I.t.α}(ha:Cv tb Γ a (.val I.t x)):Fi tb Γ (.cvc a) (some (oY (I.toI x))) fun z=> .val A5 z:=h_cvcI ha
end
theorem sB{p:Prop}(h:p:=by repeat' constructor):p:=h
abbrev BS(tb:CD)(c:Dx)(As Rs:List T)(a:Ce As):=Aa tb ⟨TD As 0 a,[]⟩ c.body [] (Aa7 Rs c.res)
end Go.Proofs.YtobejhpigbllpaaGreatDoor.Am
namespace Go.Proofs.YtobejhpigbllpaaGreatDoor.Am
def rB(l:List UInt8):Nat×Bool:=match Lib.parseUintB 64 l with
 | .ok u=>(u,false)
 | .range=>(18446744073709551615,true)
 |_=>(0,true)
def pParse:List AV→Av→Option (AV×Option Av)
 |[.s l, .i .i64 b, .i .i64 z],_=>if b=10∧z=64∧l.length≤BR then some (.tup [.i .u64 ((rB l).1:Nat),if(rB l).2 then .ifc 0 .junk else .nili],none)else none
 |_,_=>none
def QW:List AV→Av→Option (AV×Option Av)
 |[.s a, .s b],_=>if a.length<4294967281 then some (.i .i64 (Lib.index a b),none)else none
 |_,_=>none
def YM(P:Program)(g gM:Nat):Prop:= ∀(a b:List UInt8) (w:World) (m:Int),a.length<4294967281→w.cell? ⟨gM,0,none⟩=some (.int .i64 m)→
 Calls P g #[.string ⟨a.toArray⟩, .string ⟨b.toArray⟩] w fun e w'=>e= .returned (.int .i64 (Lib.index a b))∧w'=w
theorem cA{P:Program}{tb:CD}{g gM:Nat}(hen:oX P g=true)(hM:gM∈tb.it)(hg:YM P g gM):
  E4 P tb fun g' args h=>if g'=g then QW args h else none:=by
 intro g' C args vs r I hr h
 dsimp only at h
 split at h
 ·rename_i hgg
  subst hgg
  unfold QW at h
  split at h
  ·rename_i hp a b
   split at h
   ·rename_i hl
    cases h
    obtain⟨v,vs',e1,r1,v2,vs2,e2,r2,e3⟩:=hr
    have e3':vs2=[]:=e3
    have r1':v= .string ⟨a.toArray⟩:=r1
    have r2':v2= .string ⟨b.toArray⟩:=r2
    subst e3';subst e2;subst e1;subst r1';subst r2'
    obtain⟨_,m,hm⟩:=I.it gM hM
    refine .inr ⟨g',_,O9 hen _ _,(hg a b C.w m hl hm).mono ?_⟩
    rintro ee w' ⟨rfl,rfl⟩
    exact⟨_,C,rfl,H5 C,I,rfl,rfl,rfl⟩
   ·cases h
  ·cases h
 ·cases h
end Go.Proofs.YtobejhpigbllpaaGreatDoor.Am
namespace Go.Proofs.YtobejhpigbllpaaGreatDoor.Am
def indexS(s b:AR):Option Int:=if s.length<4294967281 then some (Lib.index s b)else none
theorem Spec.indexS{tb:CD}{g:Nat}(hp:tb.prim g=some QW):Spec tb g [A5,A5] [T.int .i64] fun a=>Am.indexS a.1 a.2:=by
 rintro P h args ⟨x,y⟩ _ _ ⟨v,q,rfl,h1,w,rfl,h2⟩ r hr
 dsimp only at hr
 unfold Am.indexS at hr
 split at hr
 ·rename_i hl
  cases hr
  refine⟨.i .i64 (Lib.index x y),none,?_,rfl,[.i .i64 (Lib.index x y)],rfl,_,rfl,BK.2 rfl⟩
  rw[DV.1 h1,DV.1 h2]
  simp only[Bs,hp,QW]
  rw[if_pos hl]
 ·cases hr
end Go.Proofs.YtobejhpigbllpaaGreatDoor.Am
section
set_option linter.unusedVariables false
set_option maxRecDepth 100000
set_option maxHeartbeats 4000000
namespace Go.Proofs.YtobejhpigbllpaaGreatDoor.Am
structure A4 where
 V:Int
 B:(Ar UInt8 16)
 deriving DecidableEq
def Ak:T:=OF (CB (T.int .i64) (A2 16 T.u8)) A4 (fun x=>(x.V,x.B)) (fun p=>⟨p.1,p.2⟩) (fun _=>rfl)
def BE:AL Ak (T.int .i64) 0:=Dj (DQ (Ay _))
def BT:AL Ak (A2 16 T.u8) 1:=Dj (Bb (Ay _))
def E1:=RL (g:=fun p=>⟨p.1,p.2⟩) (hfg:=fun _=>rfl) (Jd (BZ.int .i64) (DT 16 BZ.u8)) (fun(x y:A4)=>inferInstance) (f:=fun x=>(x.V,x.B)) (by rintro⟨⟩ ⟨⟩ h;cases h;rfl)
structure AA where
 A:A4
 Port:Int
 deriving DecidableEq
def Aq:T:=OF (CB Ak (T.int .i64)) AA (fun x=>(x.A,x.Port)) (fun p=>⟨p.1,p.2⟩) (fun _=>rfl)
def F6:AL Aq Ak 0:=Dj (DQ (Ay _))
def Ea:AL Aq (T.int .i64) 17:=Dj (Bb (Ay _))
def Du:=RL (g:=fun p=>⟨p.1,p.2⟩) (hfg:=fun _=>rfl) (Jd E1 (BZ.int .i64)) (fun(x y:AA)=>inferInstance) (f:=fun x=>(x.A,x.Port)) (by rintro⟨⟩ ⟨⟩ h;cases h;rfl)
structure Ao where
 A:A4
 Bits:Int
 deriving DecidableEq
def Ah:T:=OF (CB Ak (T.int .i64)) Ao (fun x=>(x.A,x.Bits)) (fun p=>⟨p.1,p.2⟩) (fun _=>rfl)
def BC:AL Ah Ak 0:=Dj (DQ (Ay _))
def BX:AL Ah (T.int .i64) 17:=Dj (Bb (Ay _))
def Db:=RL (g:=fun p=>⟨p.1,p.2⟩) (hfg:=fun _=>rfl) (Jd E1 (BZ.int .i64)) (fun(x y:Ao)=>inferInstance) (f:=fun x=>(x.A,x.Bits)) (by rintro⟨⟩ ⟨⟩ h;cases h;rfl)
structure AI where
 Key:(Ar UInt8 32)
 Psk:(Ar UInt8 32)
 End:AA
 Keep:Int
 Sent:UInt64
 Got:UInt64
 Allowed:(GS Ao)
 deriving DecidableEq
def Ax:T:=OF (CB (A2 32 T.u8) (CB (A2 32 T.u8) (CB Aq (CB (T.int .i64) (CB T.u64 (CB T.u64 (T.sl Ah))))))) AI (fun x=>(x.Key,x.Psk,x.End,x.Keep,x.Sent,x.Got,x.Allowed)) (fun p=>⟨p.1,p.2.1,p.2.2.1,p.2.2.2.1,p.2.2.2.2.1,p.2.2.2.2.2.1,p.2.2.2.2.2.2⟩) (fun _=>rfl)
def DR:AL Ax (A2 32 T.u8) 0:=Dj (DQ (Ay _))
def KZ:AL Ax (A2 32 T.u8) 32:=Dj (Bb (DQ (Ay _)))
def DS:AL Ax Aq 64:=Dj (Bb (Bb (DQ (Ay _))))
def Gk:AL Ax (T.int .i64) 82:=Dj (Bb (Bb (Bb (DQ (Ay _)))))
def JW:AL Ax T.u64 83:=Dj (Bb (Bb (Bb (Bb (DQ (Ay _))))))
def La:AL Ax T.u64 84:=Dj (Bb (Bb (Bb (Bb (Bb (DQ (Ay _)))))))
def Ch:AL Ax (T.sl Ah) 85:=Dj (Bb (Bb (Bb (Bb (Bb (Bb (Ay _)))))))
structure Be where
 Private:(Ar UInt8 32)
 Port:Int
 Mark:UInt32
 Peers:(GS AI)
 deriving DecidableEq
def Az:T:=OF (CB (A2 32 T.u8) (CB (T.int .i64) (CB T.u32 (T.sl Ax)))) Be (fun x=>(x.Private,x.Port,x.Mark,x.Peers)) (fun p=>⟨p.1,p.2.1,p.2.2.1,p.2.2.2⟩) (fun _=>rfl)
def HT:AL Az (A2 32 T.u8) 0:=Dj (DQ (Ay _))
def Gm:AL Az (T.int .i64) 32:=Dj (Bb (DQ (Ay _)))
def JX:AL Az T.u32 33:=Dj (Bb (Bb (DQ (Ay _))))
def Bw:AL Az (T.sl Ax) 34:=Dj (Bb (Bb (Bb (Ay _))))
structure A0 where
 Key:AR
 Value:AR
 deriving DecidableEq
def Au:T:=OF (CB A5 A5) A0 (fun x=>(x.Key,x.Value)) (fun p=>⟨p.1,p.2⟩) (fun _=>rfl)
def Cq:AL Au A5 0:=Dj (DQ (Ay _))
def Cr:AL Au A5 1:=Dj (Bb (Ay _))
structure An where
 Word:Int
 Key:(Ar UInt8 32)
 N:UInt64
 End:AA
 P:Ao
 deriving DecidableEq
def Ae:T:=OF (CB (T.int .i64) (CB (A2 32 T.u8) (CB T.u64 (CB Aq Ah)))) An (fun x=>(x.Word,x.Key,x.N,x.End,x.P)) (fun p=>⟨p.1,p.2.1,p.2.2.1,p.2.2.2.1,p.2.2.2.2⟩) (fun _=>rfl)
def A7:AL Ae (T.int .i64) 0:=Dj (DQ (Ay _))
def Gl:AL Ae (A2 32 T.u8) 1:=Dj (Bb (DQ (Ay _)))
def BY:AL Ae T.u64 33:=Dj (Bb (Bb (DQ (Ay _))))
def HJ:AL Ae Aq 34:=Dj (Bb (Bb (Bb (DQ (Ay _)))))
def Jq:AL Ae Ah 52:=Dj (Bb (Bb (Bb (Bb (Ay _)))))
def C0:=RL (g:=fun p=>⟨p.1,p.2.1,p.2.2.1,p.2.2.2.1,p.2.2.2.2⟩) (hfg:=fun _=>rfl) (Jd (BZ.int .i64) (Jd (DT 32 BZ.u8) (Jd BZ.u64 (Jd Du Db)))) (fun(x y:An)=>inferInstance) (f:=fun x=>(x.Word,x.Key,x.N,x.End,x.P)) (by rintro⟨⟩ ⟨⟩ h;cases h;rfl)
def M4:(Ar UInt8 32)→(Ar UInt8 32)→Bool:=G7 (DT 32 BZ.u8)
def Gv:Ao→Ao→Bool:=G7 Db
abbrev E5:AR:=[48,48,48,49,48,50,48,51,48,52,48,53,48,54,48,55,48,56,48,57,49,48,49,49,49,50,49,51,49,52,49,53,49,54,49,55,49,56,49,57,50,48,50,49,50,50,50,51,50,52,50,53,50,54,50,55,50,56,50,57,51,48,51,49,51,50,51,51,51,52,51,53,51,54,51,55,51,56,51,57,52,48,52,49,52,50,52,51,52,52,52,53,52,54,52,55,52,56,52,57,53,48,53,49,53,50,53,51,53,52,53,53,53,54,53,55,53,56,53,57,54,48,54,49,54,50,54,51,54,52,54,53,54,54,54,55,54,56,54,57,55,48,55,49,55,50,55,51,55,52,55,53,55,54,55,55,55,56,55,57,56,48,56,49,56,50,56,51,56,52,56,53,56,54,56,55,56,56,56,57,57,48,57,49,57,50,57,51,57,52,57,53,57,54,57,55,57,56,57,57]
abbrev str_1:AR:=[0,1,2,2,3,3,3,3,4,4,4,4,4,4,4,4,5,5,5,5,5,5,5,5,5,5,5,5,5,5,5,5,6,6,6,6,6,6,6,6,6,6,6,6,6,6,6,6,6,6,6,6,6,6,6,6,6,6,6,6,6,6,6,6,7,7,7,7,7,7,7,7,7,7,7,7,7,7,7,7,7,7,7,7,7,7,7,7,7,7,7,7,7,7,7,7,7,7,7,7,7,7,7,7,7,7,7,7,7,7,7,7,7,7,7,7,7,7,7,7,7,7,7,7,7,7,7,7,8,8,8,8,8,8,8,8,8,8,8,8,8,8,8,8,8,8,8,8,8,8,8,8,8,8,8,8,8,8,8,8,8,8,8,8,8,8,8,8,8,8,8,8,8,8,8,8,8,8,8,8,8,8,8,8,8,8,8,8,8,8,8,8,8,8,8,8,8,8,8,8,8,8,8,8,8,8,8,8,8,8,8,8,8,8,8,8,8,8,8,8,8,8,8,8,8,8,8,8,8,8,8,8,8,8,8,8,8,8,8,8,8,8,8,8,8,8,8,8,8,8,8,8,8,8,8,8]
end Go.Proofs.YtobejhpigbllpaaGreatDoor.Am
end
section
set_option linter.unusedVariables false
set_option maxRecDepth 100000
set_option maxHeartbeats 4000000
namespace Go.Proofs.YtobejhpigbllpaaGreatDoor.Am
def D6:Nat:=7
def GV:Nat:=20
def FU:Nat:=22
def FW:Nat:=23
def DM:Nat:=24
def FT:Nat:=26
def Ia:Nat:=27
def DU:Nat:=28
def GQ:Nat:=30
def DW:Nat:=32
def GU:Nat:=41
def Gr:Nat:=43
def Gq:Nat:=46
def Fx:Nat:=47
def Ds:Nat:=48
def DX:Nat:=49
def GD:Nat:=51
def GR:Nat:=52
def Ic:Nat:=53
def E9:Nat:=54
def Ec:Nat:=55
def CC:Nat:=60
def Ba:Nat:=61
def B4:Nat:=62
def EX:Nat:=72
def Fv:Nat:=73
def D7:Nat:=74
def CI:Nat:=75
def Em:Nat:=76
def Gs:Nat:=77
def FV:Nat:=80
def Id:Nat:=81
def Ie:Nat:=82
def Ib:Nat:=83
def EA:Nat:=85
def En:Nat:=90
def Ig:Nat:=95
def CV:Nat:=100
def Bv:Nat:=105
def E8:Nat:=106
def Cz:Nat:=107
def Ej:Nat:=118
def Ha:Nat:=119
def Do:Nat:=120
def C5:Nat:=121
def Dw:Nat:=122
def Fz:Nat:=123
def Eo:Nat:=124
def EZ:Nat:=125
def GT:Nat:=131
def B8:Nat:=132
def Fa:Nat:=134
def EM:Nat:=135
def CN:Nat:=139
def EY:Nat:=142
def Bx:Nat:=144
def IX:Nat:=154
def Hc:Nat:=155
def Hd:Nat:=156
def Dv:Nat:=157
def El:Nat:=158
def GE:Nat:=159
def GF:Nat:=160
def Fy:Nat:=161
def CA:Nat:=162
def Hy:Nat:=163
def GW:Nat:=165
def Gt:Nat:=166
def B9:Nat:=172
def BV:Nat:=175
def Hb:Nat:=181
def Er:Nat:=182
def Cy:Nat:=183
def BL:Nat:=184
def Cu:Nat:=185
def B7:Nat:=186
def CH:Nat:=187
def GX:Nat:=188
def C7:Nat:=189
def C6:Nat:=190
def GY:Nat:=191
def C9:Nat:=192
def C8:Nat:=193
def FX:Nat:=194
def Cg:Nat:=196
def GZ:Nat:=197
def Cf:Nat:=198
def B1:Nat:=199
def Bj:Nat:=200
def Bd:Nat:=201
def H8:Nat:=202
def CU:Nat:=203
def CT:Nat:=204
def ED:Nat:=205
def Ep:Nat:=206
def EL:Nat:=207
def Cd:Nat:=212
def BF:Nat:=213
def BN:Nat:=214
def IW:Nat:=215
def Dh:Nat:=226
def Cc:Nat:=227
def Ed:Nat:=228
def IG:Nat:=229
def EC:Nat:=232
def Fw:Nat:=233
def BG:Nat:=239
def D5:Nat:=240
def BH:Nat:=241
def EB:Nat:=249
noncomputable def G1:Dx:=⟨false,2,46,[.tmp 4],(.seq (rg false [oz 2 (.box 54 35 (.t 0)),oz 3 (.box 54 35 (.t 1)),oz 4 (.mv (.k (.b false)))]) (.seq (.seq (rg false [oz 9 (.ld true 35 (.t 2)),oz 10 (.call FU [(.t 9)]),oz 11 (.mv (.t 10)),⟨some 12,some (11,false), .ld true 35 (.t 3)⟩,⟨some 13,some (11,false), .call FU [(.t 12)]⟩,oz 14 (.pick (.t 11) (.k (.b true)) (.t 13)),oz 15 (.mv (.t 14)),⟨some 16,some (15,false), .ld true 35 (.t 2)⟩,⟨some 17,some (15,false), .call FT [(.t 16)]⟩,⟨some 18,some (15,false), .un .not (.t 17)⟩,oz 19 (.pick (.t 15) (.k (.b true)) (.t 18)),oz 20 (.mv (.t 19)),⟨some 21,some (20,false), .ld true 35 (.t 3)⟩,⟨some 22,some (20,false), .call FT [(.t 21)]⟩,⟨some 23,some (20,false), .un .not (.t 22)⟩,oz 24 (.pick (.t 20) (.k (.b true)) (.t 23))]) (.cond (.t 24) (.seq (rg false [oz 25 (.call FW []),oz 4 (.mv (.t 25))]) .ret) .skip)) (.seq (rg false [oz 27 (.ld true 35 (.t 2)),oz 28 (.call DM [(.t 27)]),oz 26 (.mv (.t 28)),oz 29 (.ext (.t 26) 0),oz 30 (.ext (.t 26) 1),oz 5 (.mv (.t 29)),oz 6 (.mv (.t 30))]) (.seq (rg false [oz 32 (.ld true 35 (.t 3)),oz 33 (.call DM [(.t 32)]),oz 31 (.mv (.t 33)),oz 34 (.ext (.t 31) 0),oz 35 (.ext (.t 31) 1),oz 7 (.mv (.t 34)),oz 8 (.mv (.t 35))]) (.seq (rg false [oz 36 (.mv (.t 5)),oz 37 (.mv (.t 7)),oz 38 (.bin .eql (.t 36) (.t 37)),oz 39 (.ld true 35 (.t 2)),oz 40 (.ld true 35 (.t 3)),oz 41 (.call Ia [(.t 39),(.t 40)]),oz 42 (.eq false (.one (.b)) (.t 38) (.t 41)),oz 43 (.mv (.t 42)),⟨some 44,some (43,true), .call FW []⟩,oz 45 (.pick (.t 43) (.t 44) (.k (.b false))),oz 4 (.mv (.t 45))])
 .ret)))))⟩
noncomputable def L6:Dx:=⟨false,1,19,[.tmp 2],(.seq (rg false [oz 2 (.mv (.k (.nils)))]) (.seq (rg false [oz 4 (.mv (.t 0)),oz 5 (.call GU [(.t 4),(.k (.i .u8 10))]),oz 3 (.mv (.t 5))]) (.seq (.seq (rg false [oz 6 (.mv (.t 3)),oz 7 (.mv (.t 3)),oz 8 (.len (.t 7)),oz 9 (.bin .sub (.t 8) (.k (.i .i64 1))),oz 10 (.ias 1 (.t 6) (.t 9)),oz 11 (.ld false 1 (.t 10)),oz 12 (.bin .eql (.t 11) (.k (.s [])))]) (.cond (.t 12) (.seq (rg false [oz 13 (.mv (.t 3)),oz 14 (.mv (.t 3)),oz 15 (.len (.t 14)),oz 16 (.bin .sub (.t 15) (.k (.i .i64 1))),oz 17 (.sll 1 (.t 13) none (some (.t 16))),oz 2 (.mv (.t 17))]) .ret) .skip)) (.seq (rg false [oz 18 (.mv (.t 3)),oz 2 (.mv (.t 18))]) .ret))))⟩
noncomputable def Ww:AC:=(.seq (.seq (rg false [oz 8 (.mv (.t 3)),oz 9 (.fa 34 (.t 1)),oz 10 (.ld false 1 (.t 9)),oz 11 (.len (.t 10)),oz 12 (.bin .lss (.t 8) (.t 11))]) (.cond (.t 12) .skip (.exit 0))) (.seq (.blk 1 (.seq (rg false [oz 15 (.fa 34 (.t 1)),oz 16 (.ld false 1 (.t 15)),oz 17 (.mv (.t 3)),oz 18 (.ias 86 (.t 16) (.t 17)),oz 19 (.fa 85 (.t 18)),oz 20 (.ld false 1 (.t 19)),oz 21 (.len (.t 20)),oz 22 (.bin .gtr (.t 21) (.k (.i .i64 80)))]) (.cond (.t 22) (.seq (rg false [oz 2 (.mv (.k (.b true)))]) .ret) .skip))) (rg false [oz 13 (.mv (.t 3)),oz 14 (.bin .add (.t 13) (.k (.i .i64 1))),oz 3 (.mv (.t 14))])))
noncomputable def Lz:Dx:=⟨false,1,23,[.tmp 2],(.seq (rg false [oz 1 (.box 54 35 (.t 0)),oz 2 (.mv (.k (.b false)))]) (.seq (.seq (rg false [oz 4 (.fa 34 (.t 1)),oz 5 (.ld false 1 (.t 4)),oz 6 (.len (.t 5)),oz 7 (.bin .gtr (.t 6) (.k (.i .i64 20)))]) (.cond (.t 7) (.seq (rg false [oz 2 (.mv (.k (.b true)))]) .ret) .skip)) (.seq (.seq (rg false [oz 3 (.mv (.k (.i .i64 0)))]) (.blk 0 (.loop [1,3] Ww))) (.seq (rg false [oz 2 (.mv (.k (.b false)))]) .ret))))⟩
noncomputable def L8:Dx:=⟨false,0,20,[.tmp 0],(.seq (rg false [oz 0 (.mv (.k (.b false)))]) (.seq (rg false [oz 4 (.bld Az.zc []),oz 5 (.call DM [(.t 4)]),oz 3 (.mv (.t 5)),oz 6 (.ext (.t 3) 0),oz 7 (.ext (.t 3) 1),oz 1 (.mv (.t 6)),oz 2 (.mv (.t 7))]) (.seq (rg false [oz 8 (.mv (.t 2)),oz 9 (.bin .eql (.t 8) (.k (.i .i64 0))),oz 10 (.mv (.t 9)),⟨some 11,some (10,true), .mv (.t 1)⟩,⟨some 12,some (10,true), .call GV [(.t 11)]⟩,⟨some 13,some (10,true), .len (.t 12)⟩,⟨some 14,some (10,true), .bin .eql (.t 13) (.k (.i .i64 5))⟩,oz 15 (.pick (.t 10) (.t 14) (.k (.b false))),oz 16 (.mv (.t 15)),⟨some 17,some (16,true), .call DU [(.k (.i .i64 7))]⟩,⟨some 18,some (16,true), .bin .eql (.t 17) (.k (.s [101,114,114,110,111,61,55,10,10]))⟩,oz 19 (.pick (.t 16) (.t 18) (.k (.b false))),oz 0 (.mv (.t 19))]) .ret)))⟩
noncomputable def SO:AC:=(.seq (rg false [oz 26 (.bin .lss (.t 25) (.t 24))]) (.seq (.cond (.t 26) .skip (.exit 0)) (.seq (.blk 1 (.seq (rg false [oz 27 (.ias 86 (.t 23) (.t 25)),oz 28 (.ld true 86 (.t 27)),oz 6 (.alloc 89 Ax.zc),on (.st 86 (.t 6) (.t 28))]) (rg false [oz 29 (.mv (.t 4)),oz 30 (.ld true 86 (.t 6)),oz 31 (.call Fx [(.t 30)]),oz 32 (.app 93 70 112 (.t 29) (.t 31)),oz 4 (.mv (.t 32))]))) (rg false [oz 33 (.bin .add (.t 25) (.k (.i .i64 1))),oz 25 (.mv (.t 33))]))))
noncomputable def Jn:Dx:=⟨false,1,42,[.tmp 2, .tmp 3],(.seq (rg false [oz 1 (.box 54 35 (.t 0)),oz 2 (.mv (.k (.s []))),oz 3 (.mv (.k (.i .i64 0)))]) (.seq (.seq (rg false [oz 7 (.ld true 35 (.t 1)),oz 8 (.call Gq [(.t 7)]),oz 9 (.un .not (.t 8))]) (.cond (.t 9) (.seq (rg false [oz 2 (.mv (.k (.s []))),oz 3 (.mv (.k (.i .i64 1)))]) .ret) .skip)) (.seq (rg false [oz 10 (.fa 0 (.t 1)),oz 11 (.ld true 32 (.t 10)),oz 12 (.bld Ae.zc [(0,1,(.k (.i .i64 1))),(1,32,(.t 11))]),oz 13 (.fa 32 (.t 1)),oz 14 (.ld false 1 (.t 13)),oz 15 (.cvi .u64 (.t 14)),oz 16 (.bld Ae.zc [(0,1,(.k (.i .i64 2))),(33,1,(.t 15))]),oz 17 (.fa 33 (.t 1)),oz 18 (.ld false 1 (.t 17)),oz 19 (.cvi .u64 (.t 18)),oz 20 (.bld Ae.zc [(0,1,(.k (.i .i64 3))),(33,1,(.t 19))]),oz 21 (.bls 93 70 (List.replicate 3 Ae.zc) [(0,(.t 12)),(1,(.t 16)),(2,(.t 20))]),oz 4 (.mv (.t 21))]) (.seq (.seq (rg false [oz 22 (.fa 34 (.t 1)),oz 23 (.ld false 1 (.t 22)),oz 24 (.len (.t 23)),oz 25 (.mv (.k (.i .i64 0)))]) (.blk 0 (.loop [4,23,24,25] SO))) (.seq (rg false [oz 34 (.mv (.t 4)),oz 35 (.bld Ae.zc [(0,1,(.k (.i .i64 16)))]),oz 36 (.bll 70 (List.replicate 1 Ae.zc) [(0,(.t 35))]),oz 37 (.app 93 70 112 (.t 34) (.t 36)),oz 38 (.call DX [(.t 37)]),oz 39 (.call Ds [(.t 38)]),oz 40 (.ext (.t 39) 0),oz 41 (.ext (.t 39) 1),oz 2 (.mv (.t 40)),oz 3 (.mv (.t 41))]) .ret)))))⟩
noncomputable def Wv:AC:=(.seq (.seq (rg false [oz 54 (.mv (.t 6)),oz 55 (.mv (.t 4)),oz 56 (.bin .lss (.t 54) (.t 55))]) (.cond (.t 56) .skip (.exit 2))) (.seq (.blk 3 (.seq (rg true [oz 59 (.fa 34 (.t 1)),oz 60 (.ld false 1 (.t 59)),oz 61 (.mv (.t 6)),oz 62 (.ias 86 (.t 60) (.t 61)),oz 63 (.fa 0 (.t 62)),oz 64 (.ld true 32 (.t 63)),oz 65 (.fa 0 (.t 5)),oz 66 (.ld true 32 (.t 65)),oz 67 (.eq false (.agg (kk [(32, .i .u8)])) (.t 64) (.t 66))]) (.cond (.t 67) (.seq (rg false [oz 2 (.mv (.k (.b false)))]) .ret) .skip))) (rg false [oz 57 (.mv (.t 6)),oz 58 (.bin .add (.t 57) (.k (.i .i64 1))),oz 6 (.mv (.t 58))])))
noncomputable def Wu:AC:=(.seq (.seq (rg false [oz 98 (.mv (.t 9)),oz 99 (.mv (.t 3)),oz 100 (.len (.t 99)),oz 101 (.bin .lss (.t 98) (.t 100))]) (.cond (.t 101) .skip (.exit 6))) (.seq (.blk 7 (.seq (rg true [oz 104 (.mv (.t 3)),oz 105 (.mv (.t 9)),oz 106 (.ias 18 (.t 104) (.t 105)),oz 107 (.ld true 18 (.t 106)),oz 108 (.ld true 18 (.t 8)),oz 109 (.eq false (.agg (kk [(1, .i .i64),(16, .i .u8),(1, .i .i64)])) (.t 107) (.t 108))]) (.cond (.t 109) (.seq (rg false [oz 2 (.mv (.k (.b false)))]) .ret) .skip))) (rg false [oz 102 (.mv (.t 9)),oz 103 (.bin .add (.t 102) (.k (.i .i64 1))),oz 9 (.mv (.t 103))])))
noncomputable def Wt:AC:=(.seq (.seq (rg false [oz 68 (.mv (.t 7)),oz 69 (.fa 85 (.t 5)),oz 70 (.ld false 1 (.t 69)),oz 71 (.len (.t 70)),oz 72 (.bin .lss (.t 68) (.t 71))]) (.cond (.t 72) .skip (.exit 4))) (.seq (.blk 5 (.seq (rg false [oz 75 (.fa 85 (.t 5)),oz 76 (.ld false 1 (.t 75)),oz 77 (.mv (.t 7)),oz 78 (.ias 18 (.t 76) (.t 77)),oz 79 (.ld true 18 (.t 78)),oz 8 (.alloc 91 Ah.zc),on (.st 18 (.t 8) (.t 79))]) (.seq (.seq (rg true [oz 80 (.ld true 18 (.t 8)),oz 81 (.call GR [(.t 80)]),oz 82 (.un .not (.t 81)),oz 83 (.mv (.t 82)),⟨some 84,some (83,false), .mv (.t 7)⟩,⟨some 85,some (83,false), .bin .gtr (.t 84) (.k (.i .i64 0))⟩,⟨some 86,some (83,false), .mv (.t 85)⟩,⟨some 87,some (86,true), .fa 85 (.t 5)⟩,⟨some 88,some (86,true), .ld false 1 (.t 87)⟩,⟨some 89,some (86,true), .mv (.t 7)⟩,⟨some 90,some (86,true), .bin .sub (.t 89) (.k (.i .i64 1))⟩,⟨some 91,some (86,true), .ias 18 (.t 88) (.t 90)⟩,⟨some 92,some (86,true), .ld true 18 (.t 91)⟩,⟨some 93,some (86,true), .ld true 18 (.t 8)⟩,⟨some 94,some (86,true), .call Ic [(.t 92),(.t 93)]⟩,⟨some 95,some (86,true), .un .not (.t 94)⟩,⟨some 96,some (83,false), .pick (.t 86) (.t 95) (.k (.b false))⟩,oz 97 (.pick (.t 83) (.k (.b true)) (.t 96))]) (.cond (.t 97) (.seq (rg false [oz 2 (.mv (.k (.b false)))]) .ret) .skip)) (.seq (.seq (rg false [oz 9 (.mv (.k (.i .i64 0)))]) (.blk 6 (.loop [1,3,4,5,7,8,9] Wu))) (rg false [oz 110 (.mv (.t 3)),oz 111 (.ld true 18 (.t 8)),oz 112 (.bll 18 (List.replicate 1 Ah.zc) [(0,(.t 111))]),oz 113 (.app 91 18 32 (.t 110) (.t 112)),oz 3 (.mv (.t 113))])))))
 (rg false [oz 73 (.mv (.t 7)),oz 74 (.bin .add (.t 73) (.k (.i .i64 1))),oz 7 (.mv (.t 74))])))
noncomputable def Ws:AC:=(.seq (.seq (rg false [oz 20 (.mv (.t 4)),oz 21 (.fa 34 (.t 1)),oz 22 (.ld false 1 (.t 21)),oz 23 (.len (.t 22)),oz 24 (.bin .lss (.t 20) (.t 23))]) (.cond (.t 24) .skip (.exit 0))) (.seq (.blk 1 (.seq (rg false [oz 27 (.fa 34 (.t 1)),oz 28 (.ld false 1 (.t 27)),oz 29 (.mv (.t 4)),oz 30 (.ias 86 (.t 28) (.t 29)),oz 31 (.ld true 86 (.t 30)),oz 5 (.alloc 89 Ax.zc),on (.st 86 (.t 5) (.t 31))]) (.seq (.seq (rg false [oz 32 (.fa 0 (.t 5)),oz 33 (.ld true 32 (.t 32)),oz 34 (.bld (A2 32 T.u8).zc []),oz 35 (.eq false (.agg (kk [(32, .i .u8)])) (.t 33) (.t 34)),oz 36 (.mv (.t 35)),⟨some 37,some (36,false), .fa 82 (.t 5)⟩,⟨some 38,some (36,false), .ld false 1 (.t 37)⟩,⟨some 39,some (36,false), .call GD [(.t 38)]⟩,⟨some 40,some (36,false), .un .not (.t 39)⟩,oz 41 (.pick (.t 36) (.k (.b true)) (.t 40)),oz 42 (.mv (.t 41)),⟨some 43,some (42,false), .fa 64 (.t 5)⟩,⟨some 44,some (42,false), .ld true 18 (.t 43)⟩,⟨some 45,some (42,false), .bld Aq.zc []⟩,⟨some 46,some (42,false), .eq true (.agg (kk [(1, .i .i64),(16, .i .u8),(1, .i .i64)])) (.t 44) (.t 45)⟩,⟨some 47,some (42,false), .mv (.t 46)⟩,⟨some 48,some (47,true), .fa 64 (.t 5)⟩,⟨some 49,some (47,true), .ld true 18 (.t 48)⟩,⟨some 50,some (47,true), .call GQ [(.t 49)]⟩,⟨some 51,some (47,true), .un .not (.t 50)⟩,⟨some 52,some (42,false), .pick (.t 47) (.t 51) (.k (.b false))⟩,oz 53 (.pick (.t 42) (.k (.b true)) (.t 52))]) (.cond (.t 53) (.seq (rg false [oz 2 (.mv (.k (.b false)))]) .ret) .skip)) (.seq (.seq (rg false [oz 6 (.mv (.k (.i .i64 0)))])
  (.blk 2 (.loop [1,3,4,5,6] Wv))) (.seq (rg false [oz 7 (.mv (.k (.i .i64 0)))]) (.blk 4 (.loop [1,3,4,5,7] Wt))))))) (rg false [oz 25 (.mv (.t 4)),oz 26 (.bin .add (.t 25) (.k (.i .i64 1))),oz 4 (.mv (.t 26))])))
noncomputable def Ly:Dx:=⟨false,1,117,[.tmp 2],(.seq (rg false [oz 1 (.box 54 35 (.t 0)),oz 2 (.mv (.k (.b false)))]) (.seq (.seq (rg false [oz 10 (.fa 32 (.t 1)),oz 11 (.ld false 1 (.t 10)),oz 12 (.call GD [(.t 11)]),oz 13 (.un .not (.t 12)),oz 14 (.mv (.t 13)),⟨some 15,some (14,false), .fa 34 (.t 1)⟩,⟨some 16,some (14,false), .ld false 1 (.t 15)⟩,⟨some 17,some (14,false), .len (.t 16)⟩,⟨some 18,some (14,false), .bin .gtr (.t 17) (.k (.i .i64 16))⟩,oz 19 (.pick (.t 14) (.k (.b true)) (.t 18))]) (.cond (.t 19) (.seq (rg false [oz 2 (.mv (.k (.b false)))]) .ret) .skip)) (.seq (rg false [oz 3 (.mv (.k (.nils)))]) (.seq (.seq (rg false [oz 4 (.mv (.k (.i .i64 0)))]) (.blk 0 (.loop [1,3,4] Ws))) (.seq (rg false [oz 114 (.mv (.t 3)),oz 115 (.len (.t 114)),oz 116 (.bin .leq (.t 115) (.k (.i .i64 64))),oz 2 (.mv (.t 116))]) .ret)))))⟩
noncomputable def X6:AC:=(.seq (.seq (rg false [oz 34 (.mv (.t 5)),oz 35 (.fa 34 (.t 2)),oz 36 (.ld false 1 (.t 35)),oz 37 (.len (.t 36)),oz 38 (.bin .lss (.t 34) (.t 37))]) (.cond (.t 38) .skip (.exit 0))) (.seq (.blk 1 (.seq (rg true [oz 41 (.fa 34 (.t 2)),oz 42 (.ld false 1 (.t 41)),oz 43 (.mv (.t 5)),oz 44 (.ias 86 (.t 42) (.t 43)),oz 45 (.ld true 86 (.t 44)),oz 46 (.fa 34 (.t 3)),oz 47 (.ld false 1 (.t 46)),oz 48 (.mv (.t 5)),oz 49 (.ias 86 (.t 47) (.t 48)),oz 50 (.ld true 86 (.t 49)),oz 51 (.call E9 [(.t 45),(.t 50)]),oz 52 (.un .not (.t 51))]) (.cond (.t 52) (.seq (rg false [oz 4 (.mv (.k (.b false)))]) .ret) .skip))) (rg false [oz 39 (.mv (.t 5)),oz 40 (.bin .add (.t 39) (.k (.i .i64 1))),oz 5 (.mv (.t 40))])))
noncomputable def N1:Dx:=⟨false,2,53,[.tmp 4],(.seq (rg false [oz 2 (.box 54 35 (.t 0)),oz 3 (.box 54 35 (.t 1)),oz 4 (.mv (.k (.b false)))]) (.seq (.seq (rg false [oz 6 (.fa 0 (.t 2)),oz 7 (.ld true 32 (.t 6)),oz 8 (.fa 0 (.t 3)),oz 9 (.ld true 32 (.t 8)),oz 10 (.eq true (.agg (kk [(32, .i .u8)])) (.t 7) (.t 9)),oz 11 (.mv (.t 10)),⟨some 12,some (11,false), .fa 32 (.t 2)⟩,⟨some 13,some (11,false), .ld false 1 (.t 12)⟩,⟨some 14,some (11,false), .fa 32 (.t 3)⟩,⟨some 15,some (11,false), .ld false 1 (.t 14)⟩,⟨some 16,some (11,false), .bin .neq (.t 13) (.t 15)⟩,oz 17 (.pick (.t 11) (.k (.b true)) (.t 16)),oz 18 (.mv (.t 17)),⟨some 19,some (18,false), .fa 33 (.t 2)⟩,⟨some 20,some (18,false), .ld false 1 (.t 19)⟩,⟨some 21,some (18,false), .fa 33 (.t 3)⟩,⟨some 22,some (18,false), .ld false 1 (.t 21)⟩,⟨some 23,some (18,false), .bin .neq (.t 20) (.t 22)⟩,oz 24 (.pick (.t 18) (.k (.b true)) (.t 23)),oz 25 (.mv (.t 24)),⟨some 26,some (25,false), .fa 34 (.t 2)⟩,⟨some 27,some (25,false), .ld false 1 (.t 26)⟩,⟨some 28,some (25,false), .len (.t 27)⟩,⟨some 29,some (25,false), .fa 34 (.t 3)⟩,⟨some 30,some (25,false), .ld false 1 (.t 29)⟩,⟨some 31,some (25,false), .len (.t 30)⟩,⟨some 32,some (25,false), .bin .neq (.t 28) (.t 31)⟩,oz 33 (.pick (.t 25) (.k (.b true)) (.t 32))]) (.cond (.t 33) (.seq (rg false [oz 4 (.mv (.k (.b false)))]) .ret) .skip)) (.seq (.seq (rg false [oz 5 (.mv (.k (.i .i64 0)))]) (.blk 0 (.loop [2,3,5] X6))) (.seq (rg false [oz 4 (.mv (.k (.b true)))]) .ret))))⟩
noncomputable def Hh:Dx:=⟨false,1,21,[.tmp 2],(.seq (rg false [oz 2 (.mv (.k (.s [])))]) (.seq (.seq (rg false [oz 5 (.mv (.t 0)),oz 6 (.bin .lss (.t 5) (.k (.i .i64 0))),oz 7 (.mv (.t 6)),⟨some 8,some (7,false), .mv (.t 0)⟩,⟨some 9,some (7,false), .bin .gtr (.t 8) (.k (.i .i64 20))⟩,oz 10 (.pick (.t 7) (.k (.b true)) (.t 9))]) (.cond (.t 10) (rg false [oz 0 (.mv (.k (.i .i64 1)))]) .skip)) (.seq (rg false [oz 12 (.mv (.t 0)),oz 13 (.cvi .u64 (.t 12)),oz 14 (.bld Ae.zc [(0,1,(.k (.i .i64 16))),(33,1,(.t 13))]),oz 15 (.bll 70 (List.replicate 1 Ae.zc) [(0,(.t 14))]),oz 16 (.call DX [(.t 15)]),oz 17 (.call Ds [(.t 16)]),oz 11 (.mv (.t 17)),oz 18 (.ext (.t 11) 0),oz 19 (.ext (.t 11) 1),oz 3 (.mv (.t 18)),oz 4 (.mv (.t 19))]) (.seq (rg false [oz 20 (.mv (.t 3)),oz 2 (.mv (.t 20))]) .ret))))⟩
noncomputable def L0:Dx:=⟨false,1,16,[.tmp 2],(.seq (rg false [oz 1 (.box 27 18 (.t 0)),oz 2 (.mv (.k (.b false)))]) (.seq (rg false [oz 3 (.fa 0 (.t 1)),oz 4 (.ld true 17 (.t 3)),oz 5 (.call Ec [(.t 4)]),oz 6 (.mv (.t 5)),⟨some 7,some (6,true), .fa 17 (.t 1)⟩,⟨some 8,some (6,true), .ld false 1 (.t 7)⟩,⟨some 9,some (6,true), .bin .geq (.t 8) (.k (.i .i64 1))⟩,oz 10 (.pick (.t 6) (.t 9) (.k (.b false))),oz 11 (.mv (.t 10)),⟨some 12,some (11,true), .fa 17 (.t 1)⟩,⟨some 13,some (11,true), .ld false 1 (.t 12)⟩,⟨some 14,some (11,true), .bin .leq (.t 13) (.k (.i .i64 65535))⟩,oz 15 (.pick (.t 11) (.t 14) (.k (.b false))),oz 2 (.mv (.t 15))]) .ret))⟩
noncomputable def R5:AC:=(.seq (rg false [oz 42 (.bin .lss (.t 41) (.t 40))]) (.seq (.cond (.t 42) .skip (.exit 1)) (.seq (.blk 2 (.seq (rg false [oz 43 (.ias 1 (.t 39) (.t 41)),oz 44 (.ld false 1 (.t 43)),oz 7 (.mv (.t 44))]) (.seq (.seq (rg false [oz 45 (.mv (.t 7)),oz 46 (.lens (.t 45)),oz 47 (.mv (.t 5)),oz 48 (.bin .sub (.k (.i .i64 9223372036854775807)) (.t 47)),oz 49 (.bin .gtr (.t 46) (.t 48))]) (.cond (.t 49) (rg false [oz 50 (.mkif 9 (.k (.s [115,116,114,105,110,103,115,58,32,74,111,105,110,32,111,117,116,112,117,116,32,108,101,110,103,116,104,32,111,118,101,114,102,108,111,119]))),on (.die)]) .skip)) (rg false [oz 51 (.mv (.t 5)),oz 52 (.mv (.t 7)),oz 53 (.lens (.t 52)),oz 54 (.bin .add (.t 51) (.t 53)),oz 5 (.mv (.t 54))])))) (rg false [oz 55 (.bin .add (.t 41) (.k (.i .i64 1))),oz 41 (.mv (.t 55))]))))
noncomputable def R4:AC:=(.seq (rg false [oz 66 (.bin .lss (.t 65) (.t 64))]) (.seq (.cond (.t 66) .skip (.exit 3)) (.seq (.blk 4 (.seq (rg false [oz 67 (.ias 1 (.t 63) (.t 65)),oz 68 (.ld false 1 (.t 67)),oz 10 (.mv (.t 68))]) (.seq (rg false [oz 69 (.mv (.t 1)),oz 70 (.call Ba [(.t 8),(.t 69)])]) (rg false [oz 71 (.mv (.t 10)),oz 72 (.call Ba [(.t 8),(.t 71)])])))) (rg false [oz 73 (.bin .add (.t 65) (.k (.i .i64 1))),oz 65 (.mv (.t 73))]))))
noncomputable def Iw:Dx:=⟨false,2,75,[.tmp 4],(.seq (rg false [oz 4 (.mv (.k (.s [])))]) (.seq (.seq (rg false [oz 11 (.mv (.t 0)),oz 12 (.len (.t 11))]) (.blk 0 (.seq (rg false [oz 14 (.bin .eql (.t 12) (.k (.i .i64 0))),oz 13 (.mv (.t 14))]) (.cond (.t 13) (.seq (rg false [oz 4 (.mv (.k (.s [])))]) .ret) (.seq (rg false [oz 16 (.bin .eql (.t 12) (.k (.i .i64 1))),oz 15 (.mv (.t 16))]) (.cond (.t 15) (.seq (rg false [oz 17 (.mv (.t 0)),oz 18 (.ias 1 (.t 17) (.k (.i .i64 0))),oz 19 (.ld false 1 (.t 18)),oz 4 (.mv (.t 19))]) .ret) .skip)))))) (.seq (rg false [oz 5 (.mv (.k (.i .i64 0)))]) (.seq (.seq (rg false [oz 20 (.mv (.t 1)),oz 21 (.lens (.t 20)),oz 22 (.bin .gtr (.t 21) (.k (.i .i64 0)))]) (.cond (.t 22) (.seq (.seq (rg false [oz 23 (.mv (.t 1)),oz 24 (.lens (.t 23)),oz 25 (.mv (.t 0)),oz 26 (.len (.t 25)),oz 27 (.bin .sub (.t 26) (.k (.i .i64 1))),oz 28 (.bin .quo (.k (.i .i64 9223372036854775807)) (.t 27)),oz 29 (.bin .geq (.t 24) (.t 28))]) (.cond (.t 29) (rg false [oz 30 (.mkif 9 (.k (.s [115,116,114,105,110,103,115,58,32,74,111,105,110,32,111,117,116,112,117,116,32,108,101,110,103,116,104,32,111,118,101,114,102,108,111,119]))),on (.die)]) .skip)) (rg false [oz 31 (.mv (.t 5)),oz 32 (.mv (.t 1)),oz 33 (.lens (.t 32)),oz 34 (.mv (.t 0)),oz 35 (.len (.t 34)),oz 36 (.bin .sub (.t 35) (.k (.i .i64 1))),oz 37 (.bin .mul (.t 33) (.t 36)),oz 38 (.bin .add (.t 31) (.t 37)),oz 5 (.mv (.t 38))])) .skip)) (.seq (.seq (rg false [oz 39 (.mv (.t 0)),oz 40 (.len (.t 39)),oz 41 (.mv (.k (.i .i64 0)))])
 (.blk 1 (.loop [0,1,5,39,40,41] R5))) (.seq (rg false [oz 8 (.alloc 107 (zz [(1, .nilp),(1, .nils)]))]) (.seq (rg false [oz 56 (.mv (.t 5)),oz 57 (.call CC [(.t 8),(.t 56)])]) (.seq (rg false [oz 58 (.mv (.t 0)),oz 59 (.ias 1 (.t 58) (.k (.i .i64 0))),oz 60 (.ld false 1 (.t 59)),oz 61 (.call Ba [(.t 8),(.t 60)])]) (.seq (.seq (rg false [oz 62 (.mv (.t 0)),oz 63 (.sll 1 (.t 62) (some (.k (.i .i64 1))) none),oz 64 (.len (.t 63)),oz 65 (.mv (.k (.i .i64 0)))]) (.blk 3 (.loop [1,8,63,64,65] R4))) (.seq (rg false [oz 74 (.call B4 [(.t 8)]),oz 4 (.mv (.t 74))]) .ret))))))))))⟩
noncomputable def Wz:AC:=(.seq (.seq (rg false [oz 8 (.mv (.t 7)),oz 9 (.mv (.t 0)),oz 10 (.lens (.t 9)),oz 11 (.bin .lss (.t 8) (.t 10))]) (.cond (.t 11) .skip (.exit 0))) (.seq (.blk 1 (.seq (rg false [oz 14 (.mv (.t 0)),oz 15 (.mv (.t 7)),oz 16 (.ixs (.t 14) (.t 15)),oz 17 (.mv (.t 1)),oz 18 (.bin .eql (.t 16) (.t 17))]) (.cond (.t 18) (.seq (rg false [oz 19 (.mv (.t 6)),oz 20 (.mv (.t 0)),oz 21 (.mv (.t 5)),oz 22 (.mv (.t 7)),oz 23 (.sls (.t 20) (some (.t 21)) (some (.t 22))),oz 24 (.bll 1 (List.replicate 1 A5.zc) [(0,(.t 23))]),oz 25 (.app 9 1 16 (.t 19) (.t 24)),oz 6 (.mv (.t 25))]) (rg false [oz 26 (.mv (.t 7)),oz 27 (.bin .add (.t 26) (.k (.i .i64 1))),oz 5 (.mv (.t 27))])) .skip))) (rg false [oz 12 (.mv (.t 7)),oz 13 (.bin .add (.t 12) (.k (.i .i64 1))),oz 7 (.mv (.t 13))])))
noncomputable def L5:Dx:=⟨false,2,34,[.tmp 4],(.seq (rg false [oz 4 (.mv (.k (.nils)))]) (.seq (rg false [oz 5 (.mv (.k (.i .i64 0)))]) (.seq (rg false [oz 6 (.mv (.k (.nils)))]) (.seq (.seq (rg false [oz 7 (.mv (.k (.i .i64 0)))]) (.blk 0 (.loop [0,1,5,6,7] Wz))) (.seq (rg false [oz 28 (.mv (.t 6)),oz 29 (.mv (.t 0)),oz 30 (.mv (.t 5)),oz 31 (.sls (.t 29) (some (.t 30)) none),oz 32 (.bll 1 (List.replicate 1 A5.zc) [(0,(.t 31))]),oz 33 (.app 9 1 16 (.t 28) (.t 32)),oz 4 (.mv (.t 33))]) .ret)))))⟩
noncomputable def Uz:AC:=(.seq (rg false [oz 9 (.bin .lss (.t 8) (.t 7))]) (.seq (.cond (.t 9) .skip (.exit 0)) (.seq (.blk 1 (.seq (rg false [oz 10 (.ias 1 (.t 6) (.t 8)),oz 11 (.ld false 1 (.t 10)),oz 5 (.mv (.t 11))]) (.seq (rg false [oz 12 (.mv (.t 5)),oz 13 (.call Ba [(.t 3),(.t 12)])]) (rg false [oz 14 (.call Ba [(.t 3),(.k (.s [10]))])])))) (rg false [oz 15 (.bin .add (.t 8) (.k (.i .i64 1))),oz 8 (.mv (.t 15))]))))
noncomputable def Kw:Dx:=⟨false,1,17,[.tmp 2],(.seq (rg false [oz 2 (.mv (.k (.s [])))]) (.seq (rg false [oz 3 (.alloc 107 (zz [(1, .nilp),(1, .nils)]))]) (.seq (.seq (rg false [oz 6 (.mv (.t 0)),oz 7 (.len (.t 6)),oz 8 (.mv (.k (.i .i64 0)))]) (.blk 0 (.loop [3,6,7,8] Uz))) (.seq (rg false [oz 16 (.call B4 [(.t 3)]),oz 2 (.mv (.t 16))]) .ret))))⟩
noncomputable def Uy:AC:=(.seq (rg false [oz 63 (.bin .lss (.t 62) (.t 61))]) (.seq (.cond (.t 63) .skip (.exit 2)) (.seq (.blk 3 (.seq (rg false [oz 64 (.ias 18 (.t 60) (.t 62)),oz 65 (.ld true 18 (.t 64)),oz 8 (.alloc 91 Ah.zc),on (.st 18 (.t 8) (.t 65))]) (.seq (.seq (rg false [oz 66 (.mv (.t 4)),oz 67 (.ld true 18 (.t 8)),oz 68 (.lkp (.agg (kk [(1, .i .i64),(16, .i .u8),(1, .i .i64)])) (.b false) false (.t 66) (.t 67))]) (.cond (.t 68) (.seq (rg false [oz 2 (.mv (.k (.b false)))]) .ret) .skip)) (rg false [oz 69 (.mv (.t 4)),oz 70 (.ld true 18 (.t 8)),on (.mup (.agg (kk [(1, .i .i64),(16, .i .u8),(1, .i .i64)])) (.t 69) (.t 70) (.k (.b true)))])))) (rg false [oz 71 (.bin .add (.t 62) (.k (.i .i64 1))),oz 62 (.mv (.t 71))]))))
noncomputable def Ux:AC:=(.seq (rg false [oz 27 (.bin .lss (.t 26) (.t 25))]) (.seq (.cond (.t 27) .skip (.exit 0)) (.seq (.blk 1 (.seq (rg false [oz 28 (.ias 86 (.t 24) (.t 26)),oz 29 (.ld true 86 (.t 28)),oz 6 (.alloc 89 Ax.zc),on (.st 86 (.t 6) (.t 29))]) (.seq (.seq (rg false [oz 30 (.mv (.t 3)),oz 31 (.fa 0 (.t 6)),oz 32 (.ld true 32 (.t 31)),oz 33 (.lkp (.agg (kk [(32, .i .u8)])) (.b false) false (.t 30) (.t 32)),oz 34 (.mv (.t 33)),⟨some 35,some (34,false), .fa 82 (.t 6)⟩,⟨some 36,some (34,false), .ld false 1 (.t 35)⟩,⟨some 37,some (34,false), .call EX [(.t 36)]⟩,⟨some 38,some (34,false), .un .not (.t 37)⟩,oz 39 (.pick (.t 34) (.k (.b true)) (.t 38)),oz 40 (.mv (.t 39)),⟨some 41,some (40,false), .fa 85 (.t 6)⟩,⟨some 42,some (40,false), .ld false 1 (.t 41)⟩,⟨some 43,some (40,false), .call Fv [(.t 42)]⟩,⟨some 44,some (40,false), .un .not (.t 43)⟩,oz 45 (.pick (.t 40) (.k (.b true)) (.t 44))]) (.cond (.t 45) (.seq (rg false [oz 2 (.mv (.k (.b false)))]) .ret) .skip)) (.seq (.seq (rg false [oz 46 (.fa 64 (.t 6)),oz 47 (.ld true 18 (.t 46)),oz 48 (.call D7 [(.t 47)]),oz 49 (.un .not (.t 48)),oz 50 (.mv (.t 49)),⟨some 51,some (50,true), .fa 64 (.t 6)⟩,⟨some 52,some (50,true), .ld true 18 (.t 51)⟩,⟨some 53,some (50,true), .call CI [(.t 52)]⟩,⟨some 54,some (50,true), .un .not (.t 53)⟩,oz 55 (.pick (.t 50) (.t 54) (.k (.b false)))]) (.cond (.t 55) (.seq (rg false [oz 2 (.mv (.k (.b false)))]) .ret) .skip)) (.seq (rg false [oz 56 (.mv (.t 3)),oz 57 (.fa 0 (.t 6)),oz 58 (.ld true 32 (.t 57)),on (.mup (.agg (kk [(32, .i .u8)])) (.t 56) (.t 58) (.k (.b true)))])
  (.seq (rg false [oz 59 (.fa 85 (.t 6)),oz 60 (.ld false 1 (.t 59)),oz 61 (.len (.t 60)),oz 62 (.mv (.k (.i .i64 0)))]) (.blk 2 (.loop [3,4,24,25,26,60,61,62] Uy)))))))) (rg false [oz 72 (.bin .add (.t 26) (.k (.i .i64 1))),oz 26 (.mv (.t 72))]))))
noncomputable def Kv:Dx:=⟨false,1,76,[.tmp 2],(.seq (rg false [oz 1 (.box 54 35 (.t 0)),oz 2 (.mv (.k (.b false)))]) (.seq (.seq (rg false [oz 9 (.fa 32 (.t 1)),oz 10 (.ld false 1 (.t 9)),oz 11 (.call EX [(.t 10)]),oz 12 (.un .not (.t 11)),oz 13 (.mv (.t 12)),⟨some 14,some (13,false), .fa 34 (.t 1)⟩,⟨some 15,some (13,false), .ld false 1 (.t 14)⟩,⟨some 16,some (13,false), .len (.t 15)⟩,⟨some 17,some (13,false), .bin .gtr (.t 16) (.k (.i .i64 16))⟩,oz 18 (.pick (.t 13) (.k (.b true)) (.t 17))]) (.cond (.t 18) (.seq (rg false [oz 2 (.mv (.k (.b false)))]) .ret) .skip)) (.seq (rg false [oz 19 (.mkm),oz 20 (.bld (A2 32 T.u8).zc []),on (.mup (.agg (kk [(32, .i .u8)])) (.t 19) (.t 20) (.k (.b true))),oz 21 (.mv (.t 19)),oz 22 (.mkm),oz 3 (.mv (.t 21)),oz 4 (.mv (.t 22))]) (.seq (.seq (rg false [oz 23 (.fa 34 (.t 1)),oz 24 (.ld false 1 (.t 23)),oz 25 (.len (.t 24)),oz 26 (.mv (.k (.i .i64 0)))]) (.blk 0 (.loop [3,4,24,25,26] Ux))) (.seq (rg false [oz 73 (.mv (.t 4)),oz 74 (.lenm (.t 73)),oz 75 (.bin .leq (.t 74) (.k (.i .i64 64))),oz 2 (.mv (.t 75))]) .ret)))))⟩
noncomputable def SN:AC:=(.seq (rg false [oz 41 (.bin .lss (.t 40) (.t 39))]) (.seq (.cond (.t 41) .skip (.exit 0)) (.seq (.blk 1 (.seq (rg false [oz 42 (.ias 18 (.t 38) (.t 40)),oz 43 (.ld true 18 (.t 42)),oz 5 (.alloc 91 Ah.zc),on (.st 18 (.t 5) (.t 43))]) (rg false [oz 44 (.mv (.t 3)),oz 45 (.ld true 18 (.t 5)),oz 46 (.bld Ae.zc [(0,1,(.k (.i .i64 12))),(52,18,(.t 45))]),oz 47 (.bll 70 (List.replicate 1 Ae.zc) [(0,(.t 46))]),oz 48 (.app 93 70 112 (.t 44) (.t 47)),oz 3 (.mv (.t 48))]))) (rg false [oz 49 (.bin .add (.t 40) (.k (.i .i64 1))),oz 40 (.mv (.t 49))]))))
noncomputable def Jm:Dx:=⟨false,1,51,[.tmp 2],(.seq (rg false [oz 1 (.box 89 86 (.t 0)),oz 2 (.mv (.k (.nils)))]) (.seq (rg false [oz 6 (.fa 0 (.t 1)),oz 7 (.ld true 32 (.t 6)),oz 8 (.bld Ae.zc [(0,1,(.k (.i .i64 5))),(1,32,(.t 7))]),oz 9 (.fa 32 (.t 1)),oz 10 (.ld true 32 (.t 9)),oz 11 (.bld Ae.zc [(0,1,(.k (.i .i64 8))),(1,32,(.t 10))]),oz 12 (.bld Ae.zc [(0,1,(.k (.i .i64 13))),(33,1,(.k (.i .u64 1)))]),oz 13 (.bls 93 70 (List.replicate 3 Ae.zc) [(0,(.t 8)),(1,(.t 11)),(2,(.t 12))]),oz 3 (.mv (.t 13))]) (.seq (.seq (rg false [oz 14 (.fa 64 (.t 1)),oz 15 (.ld true 18 (.t 14)),oz 16 (.call D7 [(.t 15)]),oz 17 (.un .not (.t 16))]) (.cond (.t 17) (rg false [oz 18 (.mv (.t 3)),oz 19 (.fa 64 (.t 1)),oz 20 (.ld true 18 (.t 19)),oz 21 (.bld Ae.zc [(0,1,(.k (.i .i64 9))),(34,18,(.t 20))]),oz 22 (.bll 70 (List.replicate 1 Ae.zc) [(0,(.t 21))]),oz 23 (.app 93 70 112 (.t 18) (.t 22)),oz 3 (.mv (.t 23))]) .skip)) (.seq (rg false [oz 24 (.mv (.t 3)),oz 25 (.fa 83 (.t 1)),oz 26 (.ld false 1 (.t 25)),oz 27 (.bld Ae.zc [(0,1,(.k (.i .i64 14))),(33,1,(.t 26))]),oz 28 (.fa 84 (.t 1)),oz 29 (.ld false 1 (.t 28)),oz 30 (.bld Ae.zc [(0,1,(.k (.i .i64 15))),(33,1,(.t 29))]),oz 31 (.fa 82 (.t 1)),oz 32 (.ld false 1 (.t 31)),oz 33 (.cvi .u64 (.t 32)),oz 34 (.bld Ae.zc [(0,1,(.k (.i .i64 10))),(33,1,(.t 33))]),oz 35 (.bll 70 (List.replicate 3 Ae.zc) [(0,(.t 27)),(1,(.t 30)),(2,(.t 34))]),oz 36 (.app 93 70 112 (.t 24) (.t 35)),oz 3 (.mv (.t 36))]) (.seq (.seq (rg false [oz 37 (.fa 85 (.t 1)),oz 38 (.ld false 1 (.t 37)),oz 39 (.len (.t 38)),oz 40 (.mv (.k (.i .i64 0)))])
 (.blk 0 (.loop [3,38,39,40] SN))) (.seq (rg false [oz 50 (.mv (.t 3)),oz 2 (.mv (.t 50))]) .ret))))))⟩
noncomputable def Py:AC:=(.seq (rg false [oz 15 (.bin .lss (.t 14) (.t 13))]) (.seq (.cond (.t 15) .skip (.exit 0)) (.seq (.blk 1 (.seq (rg false [oz 16 (.ias 2 (.t 12) (.t 14)),oz 17 (.ld true 2 (.t 16)),oz 6 (.alloc 130 Au.zc),on (.st 2 (.t 6) (.t 17))]) (.seq (rg false [oz 19 (.ld true 2 (.t 6)),oz 20 (.call Em [(.t 19)]),oz 18 (.mv (.t 20)),oz 21 (.ext (.t 18) 0),oz 22 (.ext (.t 18) 1),oz 7 (.mv (.t 21)),oz 8 (.mv (.t 22))]) (.seq (.seq (rg false [oz 23 (.mv (.t 8)),oz 24 (.bin .neq (.t 23) (.k (.i .i64 0)))]) (.cond (.t 24) (.seq (rg false [oz 25 (.mv (.t 8)),oz 2 (.mv (.k (.s []))),oz 3 (.mv (.t 25))]) .ret) .skip)) (rg false [oz 26 (.mv (.t 4)),oz 27 (.mv (.t 7)),oz 28 (.bll 1 (List.replicate 1 A5.zc) [(0,(.t 27))]),oz 29 (.app 9 1 16 (.t 26) (.t 28)),oz 4 (.mv (.t 29))]))))) (rg false [oz 30 (.bin .add (.t 14) (.k (.i .i64 1))),oz 14 (.mv (.t 30))]))))
noncomputable def Hf:Dx:=⟨false,1,35,[.tmp 2, .tmp 3],(.seq (rg false [oz 2 (.mv (.k (.s []))),oz 3 (.mv (.k (.i .i64 0)))]) (.seq (.seq (rg false [oz 9 (.mv (.t 0)),oz 10 (.len (.t 9)),oz 11 (.bin .gtr (.t 10) (.k (.i .i64 400)))]) (.cond (.t 11) (.seq (rg false [oz 2 (.mv (.k (.s []))),oz 3 (.mv (.k (.i .i64 4)))]) .ret) .skip)) (.seq (rg false [oz 4 (.mv (.k (.nils)))]) (.seq (.seq (rg false [oz 12 (.mv (.t 0)),oz 13 (.len (.t 12)),oz 14 (.mv (.k (.i .i64 0)))]) (.blk 0 (.loop [4,12,13,14] Py))) (.seq (rg false [oz 31 (.mv (.t 4)),oz 32 (.bll 1 (List.replicate 1 A5.zc) [(0,(.k (.s [])))]),oz 33 (.app 9 1 16 (.t 31) (.t 32)),oz 34 (.call Gr [(.t 33)]),oz 2 (.mv (.t 34)),oz 3 (.mv (.k (.i .i64 0)))]) .ret)))))⟩
noncomputable def R7:AC:=(.seq (rg false [oz 11 (.bin .lss (.t 10) (.t 9))]) (.seq (.cond (.t 11) .skip (.exit 0)) (.seq (.blk 1 (.seq (rg false [oz 12 (.ias 70 (.t 8) (.t 10)),oz 13 (.ld true 70 (.t 12)),oz 5 (.alloc 93 Ae.zc),on (.st 70 (.t 5) (.t 13))]) (.seq (rg false [oz 15 (.ld true 70 (.t 5)),oz 16 (.call Gs [(.t 15)]),oz 14 (.mv (.t 16)),oz 17 (.ext (.t 14) 0),oz 18 (.ext (.t 14) 1),oz 6 (.alloc 130 Au.zc),on (.st 2 (.t 6) (.t 17)),oz 7 (.mv (.t 18))]) (rg false [oz 19 (.mv (.t 3)),oz 20 (.ld true 2 (.t 6)),oz 21 (.bll 2 (List.replicate 1 Au.zc) [(0,(.t 20))]),oz 22 (.app 130 2 32 (.t 19) (.t 21)),oz 3 (.mv (.t 22))])))) (rg false [oz 23 (.bin .add (.t 10) (.k (.i .i64 1))),oz 10 (.mv (.t 23))]))))
noncomputable def Iz:Dx:=⟨false,1,25,[.tmp 2],(.seq (rg false [oz 2 (.mv (.k (.nils)))]) (.seq (rg false [oz 3 (.mv (.k (.nils)))]) (.seq (.seq (rg false [oz 8 (.mv (.t 0)),oz 9 (.len (.t 8)),oz 10 (.mv (.k (.i .i64 0)))]) (.blk 0 (.loop [3,8,9,10] R7))) (.seq (rg false [oz 24 (.mv (.t 3)),oz 2 (.mv (.t 24))]) .ret))))⟩
noncomputable def N0:Dx:=⟨false,1,9,[.tmp 2],(.seq (rg false [oz 2 (.mv (.k (.b false)))]) (.seq (rg false [oz 3 (.mv (.t 0)),oz 4 (.bin .geq (.t 3) (.k (.i .i64 0))),oz 5 (.mv (.t 4)),⟨some 6,some (5,true), .mv (.t 0)⟩,⟨some 7,some (5,true), .bin .leq (.t 6) (.k (.i .i64 65535))⟩,oz 8 (.pick (.t 5) (.t 7) (.k (.b false))),oz 2 (.mv (.t 8))]) .ret))⟩
noncomputable def L1:Dx:=⟨false,1,28,[.tmp 2],(.seq (rg false [oz 1 (.box 91 18 (.t 0)),oz 2 (.mv (.k (.b false)))]) (.seq (.seq (rg true [oz 3 (.fa 0 (.t 1)),oz 4 (.ld true 17 (.t 3)),oz 5 (.call Ec [(.t 4)]),oz 6 (.un .not (.t 5)),oz 7 (.mv (.t 6)),⟨some 8,some (7,false), .fa 17 (.t 1)⟩,⟨some 9,some (7,false), .ld false 1 (.t 8)⟩,⟨some 10,some (7,false), .bin .lss (.t 9) (.k (.i .i64 0))⟩,oz 11 (.pick (.t 7) (.k (.b true)) (.t 10)),oz 12 (.mv (.t 11)),⟨some 13,some (12,false), .fa 17 (.t 1)⟩,⟨some 14,some (12,false), .ld false 1 (.t 13)⟩,⟨some 15,some (12,false), .fa 0 (.t 1)⟩,⟨some 16,some (12,false), .ld true 17 (.t 15)⟩,⟨some 17,some (12,false), .call FV [(.t 16)]⟩,⟨some 18,some (12,false), .bin .gtr (.t 14) (.t 17)⟩,oz 19 (.pick (.t 12) (.k (.b true)) (.t 18))]) (.cond (.t 19) (.seq (rg false [oz 2 (.mv (.k (.b false)))]) .ret) .skip)) (.seq (rg true [oz 20 (.fa 0 (.t 1)),oz 21 (.ld true 17 (.t 20)),oz 22 (.fa 0 (.t 1)),oz 23 (.ld true 17 (.t 22)),oz 24 (.fa 17 (.t 1)),oz 25 (.ld false 1 (.t 24)),oz 26 (.call Id [(.t 23),(.t 25)]),oz 27 (.eq false (.agg (kk [(1, .i .i64),(16, .i .u8)])) (.t 21) (.t 26)),oz 2 (.mv (.t 27))]) .ret)))⟩
noncomputable def N3:Dx:=⟨false,2,20,[.tmp 4],(.seq (rg false [oz 2 (.box 91 18 (.t 0)),oz 3 (.box 91 18 (.t 1)),oz 4 (.mv (.k (.b false)))]) (.seq (.seq (rg false [oz 5 (.fa 0 (.t 2)),oz 6 (.ld true 17 (.t 5)),oz 7 (.fa 0 (.t 3)),oz 8 (.ld true 17 (.t 7)),oz 9 (.eq true (.agg (kk [(1, .i .i64),(16, .i .u8)])) (.t 6) (.t 8))]) (.cond (.t 9) (.seq (rg false [oz 10 (.fa 0 (.t 2)),oz 11 (.ld true 17 (.t 10)),oz 12 (.fa 0 (.t 3)),oz 13 (.ld true 17 (.t 12)),oz 14 (.call Ie [(.t 11),(.t 13)]),oz 4 (.mv (.t 14))]) .ret) .skip)) (.seq (rg false [oz 15 (.fa 17 (.t 2)),oz 16 (.ld false 1 (.t 15)),oz 17 (.fa 17 (.t 3)),oz 18 (.ld false 1 (.t 17)),oz 19 (.bin .lss (.t 16) (.t 18)),oz 4 (.mv (.t 19))]) .ret)))⟩
noncomputable def Ix:Dx:=⟨false,2,52,[.tmp 4],(.seq (rg false [oz 2 (.box 89 86 (.t 0)),oz 3 (.box 89 86 (.t 1)),oz 4 (.mv (.k (.b false)))]) (.seq (rg false [oz 5 (.fa 0 (.t 2)),oz 6 (.ld true 32 (.t 5)),oz 7 (.fa 0 (.t 3)),oz 8 (.ld true 32 (.t 7)),oz 9 (.eq false (.agg (kk [(32, .i .u8)])) (.t 6) (.t 8)),oz 10 (.mv (.t 9)),⟨some 11,some (10,true), .fa 32 (.t 2)⟩,⟨some 12,some (10,true), .ld true 32 (.t 11)⟩,⟨some 13,some (10,true), .fa 32 (.t 3)⟩,⟨some 14,some (10,true), .ld true 32 (.t 13)⟩,⟨some 15,some (10,true), .eq false (.agg (kk [(32, .i .u8)])) (.t 12) (.t 14)⟩,oz 16 (.pick (.t 10) (.t 15) (.k (.b false))),oz 17 (.mv (.t 16)),⟨some 18,some (17,true), .fa 64 (.t 2)⟩,⟨some 19,some (17,true), .ld true 18 (.t 18)⟩,⟨some 20,some (17,true), .fa 64 (.t 3)⟩,⟨some 21,some (17,true), .ld true 18 (.t 20)⟩,⟨some 22,some (17,true), .eq false (.agg (kk [(1, .i .i64),(16, .i .u8),(1, .i .i64)])) (.t 19) (.t 21)⟩,oz 23 (.pick (.t 17) (.t 22) (.k (.b false))),oz 24 (.mv (.t 23)),⟨some 25,some (24,true), .fa 82 (.t 2)⟩,⟨some 26,some (24,true), .ld false 1 (.t 25)⟩,⟨some 27,some (24,true), .fa 82 (.t 3)⟩,⟨some 28,some (24,true), .ld false 1 (.t 27)⟩,⟨some 29,some (24,true), .bin .eql (.t 26) (.t 28)⟩,oz 30 (.pick (.t 24) (.t 29) (.k (.b false))),oz 31 (.mv (.t 30)),⟨some 32,some (31,true), .fa 83 (.t 2)⟩,⟨some 33,some (31,true), .ld false 1 (.t 32)⟩,⟨some 34,some (31,true), .fa 83 (.t 3)⟩,⟨some 35,some (31,true), .ld false 1 (.t 34)⟩,⟨some 36,some (31,true), .bin .eql (.t 33) (.t 35)⟩,oz 37 (.pick (.t 31) (.t 36) (.k (.b false))),oz 38 (.mv (.t 37)),⟨some 39,some (38,true), .fa 84 (.t 2)⟩,⟨some 40,some (38,true), .ld false 1 (.t 39)⟩,⟨some 41,some (38,true), .fa 84 (.t 3)⟩,⟨some 42,some (38,true), .ld false 1 (.t 41)⟩,⟨some 43,some (38,true), .bin .eql (.t 40) (.t 42)⟩,oz 44 (.pick (.t 38) (.t 43) (.k (.b false))),oz 45 (.mv (.t 44)),⟨some 46,some (45,true), .fa 85 (.t 2)⟩,⟨some 47,some (45,true), .ld false 1 (.t 46)⟩,⟨some 48,some (45,true), .fa 85 (.t 3)⟩,⟨some 49,some (45,true), .ld false 1 (.t 48)⟩,⟨some 50,some (45,true), .call Ib [(.t 47),(.t 49)]⟩,oz 51 (.pick (.t 45) (.t 50) (.k (.b false))),oz 4 (.mv (.t 51))])
 .ret))⟩
noncomputable def Wy:AC:=(.seq (.seq (rg false [oz 7 (.mv (.t 3)),oz 8 (.bin .lss (.t 7) (.k (.i .i64 16)))]) (.cond (.t 8) .skip (.exit 0))) (.seq (.blk 1 (.seq (rg false [oz 11 (.mv (.t 3)),oz 12 (.fa 1 (.t 1)),oz 13 (.iaa 16 1 (.t 12) (.t 11)),oz 14 (.ld false 1 (.t 13)),oz 15 (.bin .neq (.t 14) (.k (.i .u8 0)))]) (.cond (.t 15) (.seq (rg false [oz 2 (.mv (.k (.b false)))]) .ret) .skip))) (rg false [oz 9 (.mv (.t 3)),oz 10 (.bin .add (.t 9) (.k (.i .i64 1))),oz 3 (.mv (.t 10))])))
noncomputable def L4:Dx:=⟨false,1,19,[.tmp 2],(.seq (rg false [oz 1 (.box 25 17 (.t 0)),oz 2 (.mv (.k (.b false)))]) (.seq (.seq (rg false [oz 4 (.fa 0 (.t 1)),oz 5 (.ld false 1 (.t 4)),oz 6 (.bin .eql (.t 5) (.k (.i .i64 6)))]) (.cond (.t 6) (.seq (rg false [oz 2 (.mv (.k (.b true)))]) .ret) .skip)) (.seq (.seq (rg false [oz 3 (.mv (.k (.i .i64 4)))]) (.blk 0 (.loop [1,3] Wy))) (.seq (rg false [oz 16 (.fa 0 (.t 1)),oz 17 (.ld false 1 (.t 16)),oz 18 (.bin .eql (.t 17) (.k (.i .i64 4))),oz 2 (.mv (.t 18))]) .ret))))⟩
noncomputable def Ff:Dx:=⟨false,2,25,[],(.seq (rg false [oz 4 (.mv (.t 0)),oz 5 (.call Bv [(.t 4)])]) (.seq (.seq (rg false [oz 6 (.mv (.t 1)),oz 7 (.bin .lss (.t 6) (.k (.i .i64 0)))]) (.cond (.t 7) (rg false [oz 8 (.mkif 9 (.k (.s [115,116,114,105,110,103,115,46,66,117,105,108,100,101,114,46,71,114,111,119,58,32,110,101,103,97,116,105,118,101,32,99,111,117,110,116]))),on (.die)]) .skip)) (.seq (rg true [oz 9 (.mv (.t 0)),oz 10 (.nilc (.t 9)),oz 11 (.fa 1 (.t 10)),oz 12 (.ld false 1 (.t 11)),oz 13 (.capn (.t 12)),oz 14 (.mv (.t 0)),oz 15 (.nilc (.t 14)),oz 16 (.fa 1 (.t 15)),oz 17 (.ld false 1 (.t 16)),oz 18 (.len (.t 17)),oz 19 (.bin .sub (.t 13) (.t 18)),oz 20 (.mv (.t 1)),oz 21 (.bin .lss (.t 19) (.t 20))]) (.cond (.t 21) (rg false [oz 22 (.mv (.t 0)),oz 23 (.mv (.t 1)),oz 24 (.call E8 [(.t 22),(.t 23)])]) .skip))))⟩
noncomputable def D2:Dx:=⟨false,2,19,[.tmp 4, .tmp 5],(.seq (rg false [oz 4 (.mv (.k (.i .i64 0))),oz 5 (.mv (.k (.nili)))]) (.seq (rg false [oz 6 (.mv (.t 0)),oz 7 (.call Bv [(.t 6)])]) (.seq (rg false [oz 8 (.mv (.t 0)),oz 9 (.mv (.t 0)),oz 10 (.nilc (.t 9)),oz 11 (.fa 1 (.t 10)),oz 12 (.ld false 1 (.t 11)),oz 13 (.mv (.t 1)),oz 14 (.app 5 1 1 (.t 12) (.t 13)),oz 15 (.nilc (.t 8)),oz 16 (.fa 1 (.t 15)),on (.st 1 (.t 16) (.t 14))]) (.seq (rg false [oz 17 (.mv (.t 1)),oz 18 (.lens (.t 17)),oz 4 (.mv (.t 18)),oz 5 (.mv (.k (.nili)))]) .ret))))⟩
noncomputable def E0:Dx:=⟨false,1,14,[.tmp 2],(.seq (rg false [oz 2 (.mv (.k (.s [])))]) (.seq (.regd [oz 3 (.mv (.t 0)),oz 4 (.nilc (.t 3)),oz 5 (.fa 1 (.t 4)),oz 6 (.ld false 1 (.t 5)),oz 7 (.usd (.t 6)),oz 8 (.mv (.t 0)),oz 9 (.nilc (.t 8)),oz 10 (.fa 1 (.t 9)),oz 11 (.ld false 1 (.t 10)),oz 12 (.len (.t 11)),oz 13 (.ust 5 (.t 7) (.t 12)),oz 2 (.mv (.t 13))] [some (0,0),some (0,0),some (0,0),some (0,0),some (0,0),some (0,0),some (0,0),some (0,0),some (0,0),some (0,0),none,some (1,1)]) .ret))⟩
noncomputable def Ku:Dx:=⟨false,1,9,[.tmp 2],(.seq (rg false [oz 2 (.mv (.k (.b false)))]) (.seq (rg false [oz 3 (.mv (.t 0)),oz 4 (.bin .geq (.t 3) (.k (.i .i64 0))),oz 5 (.mv (.t 4)),⟨some 6,some (5,true), .mv (.t 0)⟩,⟨some 7,some (5,true), .bin .leq (.t 6) (.k (.i .i64 65535))⟩,oz 8 (.pick (.t 5) (.t 7) (.k (.b false))),oz 2 (.mv (.t 8))]) .ret))⟩
noncomputable def SL:AC:=(.seq (rg false [oz 8 (.bin .lss (.t 7) (.t 6))]) (.seq (.cond (.t 8) .skip (.exit 0)) (.seq (.blk 1 (.seq (rg false [oz 9 (.mv (.t 7)),oz 10 (.ias 18 (.t 5) (.t 7)),oz 11 (.ld true 18 (.t 10)),oz 4 (.alloc 91 Ah.zc),oz 3 (.mv (.t 9)),on (.st 18 (.t 4) (.t 11))]) (.seq (rg true [oz 12 (.ld true 18 (.t 4)),oz 13 (.call Ej [(.t 12)]),oz 14 (.un .not (.t 13)),oz 15 (.mv (.t 14)),⟨some 16,some (15,false), .mv (.t 3)⟩,⟨some 17,some (15,false), .bin .gtr (.t 16) (.k (.i .i64 0))⟩,⟨some 18,some (15,false), .mv (.t 17)⟩,⟨some 19,some (18,true), .mv (.t 0)⟩,⟨some 20,some (18,true), .mv (.t 3)⟩,⟨some 21,some (18,true), .bin .sub (.t 20) (.k (.i .i64 1))⟩,⟨some 22,some (18,true), .ias 18 (.t 19) (.t 21)⟩,⟨some 23,some (18,true), .ld true 18 (.t 22)⟩,⟨some 24,some (18,true), .ld true 18 (.t 4)⟩,⟨some 25,some (18,true), .call Ha [(.t 23),(.t 24)]⟩,⟨some 26,some (18,true), .un .not (.t 25)⟩,⟨some 27,some (15,false), .pick (.t 18) (.t 26) (.k (.b false))⟩,oz 28 (.pick (.t 15) (.k (.b true)) (.t 27))]) (.cond (.t 28) (.seq (rg false [oz 2 (.mv (.k (.b false)))]) .ret) .skip)))) (rg false [oz 29 (.bin .add (.t 7) (.k (.i .i64 1))),oz 7 (.mv (.t 29))]))))
noncomputable def Jk:Dx:=⟨false,1,30,[.tmp 2],(.seq (rg false [oz 2 (.mv (.k (.b false)))]) (.seq (.seq (rg false [oz 5 (.mv (.t 0)),oz 6 (.len (.t 5)),oz 7 (.mv (.k (.i .i64 0)))]) (.blk 0 (.loop [0,5,6,7] SL))) (.seq (rg false [oz 2 (.mv (.k (.b true)))]) .ret)))⟩
noncomputable def HC:Dx:=⟨false,1,6,[.tmp 2],(.seq (rg false [oz 1 (.box 27 18 (.t 0)),oz 2 (.mv (.k (.b false)))]) (.seq (rg false [oz 3 (.ld true 18 (.t 1)),oz 4 (.bld Aq.zc []),oz 5 (.eq false (.agg (kk [(1, .i .i64),(16, .i .u8),(1, .i .i64)])) (.t 3) (.t 4)),oz 2 (.mv (.t 5))]) .ret))⟩
noncomputable def Hg:Dx:=⟨false,1,16,[.tmp 2],(.seq (rg false [oz 1 (.box 27 18 (.t 0)),oz 2 (.mv (.k (.b false)))]) (.seq (rg false [oz 3 (.fa 0 (.t 1)),oz 4 (.ld true 17 (.t 3)),oz 5 (.call Do [(.t 4)]),oz 6 (.mv (.t 5)),⟨some 7,some (6,true), .fa 17 (.t 1)⟩,⟨some 8,some (6,true), .ld false 1 (.t 7)⟩,⟨some 9,some (6,true), .bin .geq (.t 8) (.k (.i .i64 1))⟩,oz 10 (.pick (.t 6) (.t 9) (.k (.b false))),oz 11 (.mv (.t 10)),⟨some 12,some (11,true), .fa 17 (.t 1)⟩,⟨some 13,some (11,true), .ld false 1 (.t 12)⟩,⟨some 14,some (11,true), .bin .leq (.t 13) (.k (.i .i64 65535))⟩,oz 15 (.pick (.t 11) (.t 14) (.k (.b false))),oz 2 (.mv (.t 15))]) .ret))⟩
noncomputable def HA:Dx:=⟨false,1,28,[.tmp 2, .tmp 3],(.seq (rg false [oz 1 (.box 130 2 (.t 0)),oz 2 (.mv (.k (.s []))),oz 3 (.mv (.k (.i .i64 0)))]) (.seq (.seq (rg false [oz 5 (.fa 0 (.t 1)),oz 6 (.ld false 1 (.t 5)),oz 7 (.bin .eql (.t 6) (.k (.s []))),oz 8 (.mv (.t 7)),⟨some 9,some (8,false), .fa 0 (.t 1)⟩,⟨some 10,some (8,false), .ld false 1 (.t 9)⟩,⟨some 11,some (8,false), .call C5 [(.t 10),(.k (.s [61,10]))]⟩,oz 12 (.pick (.t 8) (.k (.b true)) (.t 11)),oz 13 (.mv (.t 12)),⟨some 14,some (13,false), .fa 1 (.t 1)⟩,⟨some 15,some (13,false), .ld false 1 (.t 14)⟩,⟨some 16,some (13,false), .call Dw [(.t 15),(.k (.s [10]))]⟩,oz 17 (.pick (.t 13) (.k (.b true)) (.t 16))]) (.cond (.t 17) (.seq (rg false [oz 2 (.mv (.k (.s []))),oz 3 (.mv (.k (.i .i64 5)))]) .ret) .skip)) (.seq (rg false [oz 18 (.fa 0 (.t 1)),oz 19 (.ld false 1 (.t 18)),oz 20 (.bin .add (.t 19) (.k (.s [61]))),oz 21 (.fa 1 (.t 1)),oz 22 (.ld false 1 (.t 21)),oz 23 (.bin .add (.t 20) (.t 22)),oz 4 (.mv (.t 23))]) (.seq (.seq (rg false [oz 24 (.mv (.t 4)),oz 25 (.lens (.t 24)),oz 26 (.bin .gtr (.t 25) (.k (.i .i64 512)))]) (.cond (.t 26) (.seq (rg false [oz 2 (.mv (.k (.s []))),oz 3 (.mv (.k (.i .i64 4)))]) .ret) .skip)) (.seq (rg false [oz 27 (.mv (.t 4)),oz 2 (.mv (.t 27)),oz 3 (.mv (.k (.i .i64 0)))]) .ret)))))⟩
noncomputable def Kx:Dx:=⟨false,1,24,[.cell true 2 2, .tmp 3],(.seq (rg false [oz 1 (.box 93 70 (.t 0)),oz 2 (.alloc 130 Au.zc),oz 3 (.mv (.k (.i .i64 0)))]) (.seq (.seq (rg false [oz 6 (.ld true 70 (.t 1)),oz 7 (.call Fz [(.t 6)]),oz 8 (.un .not (.t 7))]) (.cond (.t 8) (.seq (rg false [oz 9 (.bld Au.zc []),on (.st 2 (.t 2) (.t 9)),oz 3 (.mv (.k (.i .i64 1)))]) .ret) .skip)) (.seq (.regd [oz 11 (.fa 0 (.t 1)),oz 12 (.ld false 1 (.t 11)),oz 13 (.call Eo [(.t 12)]),oz 14 (.fld false 1 1 (.t 13)),oz 15 (.ld true 70 (.t 1)),oz 16 (.callv (.t 14) [(.t 15)]),oz 10 (.mv (.t 16)),oz 17 (.ext (.t 10) 0),oz 18 (.ext (.t 10) 1),oz 4 (.mv (.t 17)),oz 5 (.mv (.t 18))] [some (0,0),some (0,0),none,some (1,1),some (0,1),none,some (2,2),some (2,2),some (2,2),some (2,2),some (2,2)]) (.seq (rg false [oz 19 (.fa 0 (.t 1)),oz 20 (.ld false 1 (.t 19)),oz 21 (.call EZ [(.t 20)]),oz 22 (.mv (.t 4)),oz 23 (.bld Au.zc [(0,1,(.t 21)),(1,1,(.t 22))]),on (.st 2 (.t 2) (.t 23)),oz 3 (.mv (.k (.i .i64 0)))]) .ret))))⟩
noncomputable def L3:Dx:=⟨false,1,9,[.tmp 2],(.seq (rg false [oz 1 (.box 25 17 (.t 0)),oz 2 (.mv (.k (.i .i64 0)))]) (.seq (.seq (rg false [oz 3 (.ld true 17 (.t 1)),oz 4 (.call Ec [(.t 3)]),oz 5 (.un .not (.t 4))]) (.cond (.t 5) (.seq (rg false [oz 2 (.mv (.k (.i .i64 0)))]) .ret) .skip)) (.seq (.seq (rg false [oz 6 (.fa 0 (.t 1)),oz 7 (.ld false 1 (.t 6)),oz 8 (.bin .eql (.t 7) (.k (.i .i64 4)))]) (.cond (.t 8) (.seq (rg false [oz 2 (.mv (.k (.i .i64 32)))]) .ret) .skip)) (.seq (rg false [oz 2 (.mv (.k (.i .i64 128)))]) .ret))))⟩
noncomputable def X9:AC:=(.seq (.seq (rg false [oz 33 (.mv (.t 9)),oz 34 (.mv (.t 7)),oz 35 (.bin .rem (.t 34) (.k (.i .i64 8))),oz 36 (.bin .lss (.t 33) (.t 35))]) (.cond (.t 36) .skip (.exit 2))) (.seq (.blk 3 (rg false [oz 39 (.mv (.t 8)),oz 40 (.bin .quo (.t 39) (.k (.i .i64 2))),oz 8 (.mv (.t 40))])) (rg false [oz 37 (.mv (.t 9)),oz 38 (.bin .add (.t 37) (.k (.i .i64 1))),oz 9 (.mv (.t 38))])))
noncomputable def X8:AC:=(.seq (.seq (rg false [oz 19 (.mv (.t 7)),oz 20 (.mv (.t 6)),oz 21 (.bin .lss (.t 19) (.t 20)),oz 22 (.mv (.t 21)),⟨some 23,some (22,true), .mv (.t 7)⟩,⟨some 24,some (22,true), .mv (.t 1)⟩,⟨some 25,some (22,true), .bin .lss (.t 23) (.t 24)⟩,oz 26 (.pick (.t 22) (.t 25) (.k (.b false)))]) (.cond (.t 26) .skip (.exit 0))) (.seq (.blk 1 (.seq (rg false [oz 29 (.ld true 17 (.t 2)),oz 30 (.mv (.t 7)),oz 31 (.call GT [(.t 29),(.t 30)]),oz 32 (.bin .eql (.t 31) (.k (.i .i64 1)))]) (.cond (.t 32) (.seq (rg false [oz 8 (.mv (.k (.i .i64 128)))]) (.seq (.seq (rg false [oz 9 (.mv (.k (.i .i64 0)))]) (.blk 2 (.loop [1,2,4,5,6,7,8,9] X9))) (rg false [oz 41 (.mv (.t 7)),oz 42 (.bin .quo (.t 41) (.k (.i .i64 8))),oz 43 (.mv (.t 7)),oz 44 (.bin .quo (.t 43) (.k (.i .i64 8))),oz 45 (.fa 1 (.t 5)),oz 46 (.iaa 16 1 (.t 45) (.t 44)),oz 47 (.ld false 1 (.t 46)),oz 48 (.mv (.t 8)),oz 49 (.cvi .u8 (.t 48)),oz 50 (.bin .add (.t 47) (.t 49)),oz 51 (.fa 1 (.t 5)),oz 52 (.iaa 16 1 (.t 51) (.t 42)),on (.st 1 (.t 52) (.t 50))]))) .skip))) (rg false [oz 27 (.mv (.t 7)),oz 28 (.bin .add (.t 27) (.k (.i .i64 1))),oz 7 (.mv (.t 28))])))
noncomputable def N4:Dx:=⟨false,2,54,[.cell true 17 4],(.seq (rg false [oz 2 (.box 25 17 (.t 0)),oz 4 (.alloc 25 Ak.zc)]) (.seq (.seq (rg false [oz 10 (.ld true 17 (.t 2)),oz 11 (.call Ec [(.t 10)]),oz 12 (.un .not (.t 11))]) (.cond (.t 12) (.seq (rg false [oz 13 (.bld Ak.zc []),on (.st 17 (.t 4) (.t 13))]) .ret) .skip)) (.seq (rg false [oz 14 (.fa 0 (.t 2)),oz 15 (.ld false 1 (.t 14)),oz 16 (.bld Ak.zc [(0,1,(.t 15))]),oz 5 (.alloc 25 Ak.zc),on (.st 17 (.t 5) (.t 16))]) (.seq (rg false [oz 17 (.ld true 17 (.t 2)),oz 18 (.call FV [(.t 17)]),oz 6 (.mv (.t 18))]) (.seq (.seq (rg false [oz 7 (.mv (.k (.i .i64 0)))]) (.blk 0 (.loop [1,2,4,5,6,7] X8))) (.seq (rg false [oz 53 (.ld true 17 (.t 5)),on (.st 17 (.t 4) (.t 53))]) .ret))))))⟩
noncomputable def XB:AC:=(.seq (.seq (rg false [oz 16 (.mv (.t 5)),oz 17 (.bin .lss (.t 16) (.k (.i .i64 16)))]) (.cond (.t 17) .skip (.exit 0))) (.seq (.blk 1 (.seq (rg true [oz 20 (.mv (.t 5)),oz 21 (.fa 1 (.t 2)),oz 22 (.iaa 16 1 (.t 21) (.t 20)),oz 23 (.ld false 1 (.t 22)),oz 24 (.mv (.t 5)),oz 25 (.fa 1 (.t 3)),oz 26 (.iaa 16 1 (.t 25) (.t 24)),oz 27 (.ld false 1 (.t 26)),oz 28 (.bin .neq (.t 23) (.t 27))]) (.cond (.t 28) (.seq (rg true [oz 29 (.mv (.t 5)),oz 30 (.fa 1 (.t 2)),oz 31 (.iaa 16 1 (.t 30) (.t 29)),oz 32 (.ld false 1 (.t 31)),oz 33 (.mv (.t 5)),oz 34 (.fa 1 (.t 3)),oz 35 (.iaa 16 1 (.t 34) (.t 33)),oz 36 (.ld false 1 (.t 35)),oz 37 (.bin .lss (.t 32) (.t 36)),oz 4 (.mv (.t 37))]) .ret) .skip))) (rg false [oz 18 (.mv (.t 5)),oz 19 (.bin .add (.t 18) (.k (.i .i64 1))),oz 5 (.mv (.t 19))])))
noncomputable def N5:Dx:=⟨false,2,38,[.tmp 4],(.seq (rg false [oz 2 (.box 25 17 (.t 0)),oz 3 (.box 25 17 (.t 1)),oz 4 (.mv (.k (.b false)))]) (.seq (.seq (rg false [oz 6 (.fa 0 (.t 2)),oz 7 (.ld false 1 (.t 6)),oz 8 (.fa 0 (.t 3)),oz 9 (.ld false 1 (.t 8)),oz 10 (.bin .neq (.t 7) (.t 9))]) (.cond (.t 10) (.seq (rg false [oz 11 (.fa 0 (.t 2)),oz 12 (.ld false 1 (.t 11)),oz 13 (.fa 0 (.t 3)),oz 14 (.ld false 1 (.t 13)),oz 15 (.bin .lss (.t 12) (.t 14)),oz 4 (.mv (.t 15))]) .ret) .skip)) (.seq (.seq (rg false [oz 5 (.mv (.k (.i .i64 0)))]) (.blk 0 (.loop [2,3,5] XB))) (.seq (rg false [oz 4 (.mv (.k (.b false)))]) .ret))))⟩
noncomputable def X7:AC:=(.seq (.seq (rg false [oz 11 (.mv (.t 5)),oz 12 (.mv (.t 0)),oz 13 (.len (.t 12)),oz 14 (.bin .lss (.t 11) (.t 13))]) (.cond (.t 14) .skip (.exit 0))) (.seq (.blk 1 (.seq (rg true [oz 17 (.mv (.t 0)),oz 18 (.mv (.t 5)),oz 19 (.ias 18 (.t 17) (.t 18)),oz 20 (.ld true 18 (.t 19)),oz 21 (.mv (.t 1)),oz 22 (.mv (.t 5)),oz 23 (.ias 18 (.t 21) (.t 22)),oz 24 (.ld true 18 (.t 23)),oz 25 (.eq true (.agg (kk [(1, .i .i64),(16, .i .u8),(1, .i .i64)])) (.t 20) (.t 24))]) (.cond (.t 25) (.seq (rg false [oz 4 (.mv (.k (.b false)))]) .ret) .skip))) (rg false [oz 15 (.mv (.t 5)),oz 16 (.bin .add (.t 15) (.k (.i .i64 1))),oz 5 (.mv (.t 16))])))
noncomputable def N2:Dx:=⟨false,2,26,[.tmp 4],(.seq (rg false [oz 4 (.mv (.k (.b false)))]) (.seq (.seq (rg false [oz 6 (.mv (.t 0)),oz 7 (.len (.t 6)),oz 8 (.mv (.t 1)),oz 9 (.len (.t 8)),oz 10 (.bin .neq (.t 7) (.t 9))]) (.cond (.t 10) (.seq (rg false [oz 4 (.mv (.k (.b false)))]) .ret) .skip)) (.seq (.seq (rg false [oz 5 (.mv (.k (.i .i64 0)))]) (.blk 0 (.loop [0,1,5] X7))) (.seq (rg false [oz 4 (.mv (.k (.b true)))]) .ret))))⟩
noncomputable def R6:AC:=(.seq (rg false [oz 9 (.bin .lss (.t 8) (.t 7))]) (.seq (.cond (.t 9) .skip (.exit 0)) (.seq (.blk 1 (.seq (rg false [oz 10 (.ias 1 (.t 6) (.t 8)),oz 11 (.ld false 1 (.t 10)),oz 5 (.mv (.t 11))]) (.seq (rg false [oz 12 (.mv (.t 5)),oz 13 (.bin .shr (.t 12) (.k (.i .u64 4))),oz 14 (.ixs (.k (.s [48,49,50,51,52,53,54,55,56,57,97,98,99,100,101,102])) (.t 13)),oz 15 (.call B8 [(.t 3),(.t 14)])]) (rg false [oz 16 (.mv (.t 5)),oz 17 (.bin .and (.t 16) (.k (.i .u8 15))),oz 18 (.ixs (.k (.s [48,49,50,51,52,53,54,55,56,57,97,98,99,100,101,102])) (.t 17)),oz 19 (.call B8 [(.t 3),(.t 18)])])))) (rg false [oz 20 (.bin .add (.t 8) (.k (.i .i64 1))),oz 8 (.mv (.t 20))]))))
noncomputable def Iy:Dx:=⟨false,1,22,[.tmp 2],(.seq (rg false [oz 2 (.mv (.k (.s [])))]) (.seq (rg false [oz 3 (.alloc 107 (zz [(1, .nilp),(1, .nils)]))]) (.seq (.seq (rg false [oz 6 (.mv (.t 0)),oz 7 (.len (.t 6)),oz 8 (.mv (.k (.i .i64 0)))]) (.blk 0 (.loop [3,6,7,8] R6))) (.seq (rg false [oz 21 (.call B4 [(.t 3)]),oz 2 (.mv (.t 21))]) .ret))))⟩
noncomputable def HB:Dx:=⟨false,1,28,[.tmp 2],(.seq (rg false [oz 1 (.box 27 18 (.t 0)),oz 2 (.mv (.k (.s [])))]) (.seq (.seq (rg false [oz 4 (.ld true 18 (.t 1)),oz 5 (.call CI [(.t 4)]),oz 6 (.un .not (.t 5))]) (.cond (.t 6) (.seq (rg false [oz 2 (.mv (.k (.s [])))]) .ret) .skip)) (.seq (rg false [oz 7 (.fa 17 (.t 1)),oz 8 (.ld false 1 (.t 7)),oz 9 (.cvi .u64 (.t 8)),oz 10 (.call CV [(.t 9)]),oz 3 (.mv (.t 10))]) (.seq (.seq (rg false [oz 11 (.fa 0 (.t 1)),oz 12 (.ld true 17 (.t 11)),oz 13 (.call Fa [(.t 12)]),oz 14 (.bin .gtr (.t 13) (.k (.i .i64 32)))]) (.cond (.t 14) (.seq (rg false [oz 15 (.fa 0 (.t 1)),oz 16 (.ld true 17 (.t 15)),oz 17 (.call EM [(.t 16)]),oz 18 (.bin .add (.k (.s [91])) (.t 17)),oz 19 (.bin .add (.t 18) (.k (.s [93,58]))),oz 20 (.mv (.t 3)),oz 21 (.bin .add (.t 19) (.t 20)),oz 2 (.mv (.t 21))]) .ret) .skip)) (.seq (rg false [oz 22 (.fa 0 (.t 1)),oz 23 (.ld true 17 (.t 22)),oz 24 (.call EM [(.t 23)]),oz 25 (.bin .add (.t 24) (.k (.s [58]))),oz 26 (.mv (.t 3)),oz 27 (.bin .add (.t 25) (.t 26)),oz 2 (.mv (.t 27))]) .ret)))))⟩
noncomputable def N6:Dx:=⟨false,1,5,[.tmp 2],(.seq (rg false [oz 1 (.box 29 32 (.t 0)),oz 2 (.mv (.k (.s [])))]) (.seq (rg false [oz 3 (.sla 32 1 (.t 1) none none),oz 4 (.call EA [(.t 3)]),oz 2 (.mv (.t 4))]) .ret))⟩
noncomputable def I6:Dx:=⟨false,1,5,[.tmp 2],(.seq (rg false [oz 2 (.mv (.k (.s [])))]) (.seq (rg false [oz 3 (.mv (.t 0)),oz 4 (.call CN [(.t 3),(.k (.i .i64 10))]),oz 2 (.mv (.t 4))]) .ret))⟩
noncomputable def DN:Dx:=⟨false,1,20,[],(.seq (rg false [oz 2 (.mv (.t 0)),oz 3 (.nilc (.t 2)),oz 4 (.fa 0 (.t 3)),oz 5 (.ld false 1 (.t 4)),oz 6 (.eq false .p (.t 5) (.k (.nilp)))]) (.cond (.t 6) (rg false [oz 7 (.mv (.t 0)),oz 8 (.mv (.t 0)),oz 9 (.cvp (.t 8)),oz 10 (.call EY [(.t 9)]),oz 11 (.cvu 107 2 (.t 10)),oz 12 (.nilc (.t 7)),oz 13 (.fa 0 (.t 12)),on (.st 1 (.t 13) (.t 11))]) (.seq (rg false [oz 14 (.mv (.t 0)),oz 15 (.nilc (.t 14)),oz 16 (.fa 0 (.t 15)),oz 17 (.ld false 1 (.t 16)),oz 18 (.mv (.t 0)),oz 19 (.eqp true (.t 17) (.t 18))]) (.cond (.t 19) .stop .skip))))⟩
noncomputable def Fo:Dx:=⟨false,2,8,[.tmp 4],(.seq (rg false [oz 4 (.mv (.k (.i .i64 0)))]) (.seq (rg false [oz 5 (.mv (.t 0)),oz 6 (.mv (.t 1)),oz 7 (.call Bx [(.t 5),(.t 6)]),oz 4 (.mv (.t 7))]) .ret))⟩
noncomputable def K0:Dx:=⟨false,1,20,[.tmp 2],(.seq (rg false [oz 1 (.box 91 18 (.t 0)),oz 2 (.mv (.k (.b false)))]) (.seq (rg false [oz 6 (.fa 0 (.t 1)),oz 7 (.ld true 17 (.t 6)),oz 8 (.fa 17 (.t 1)),oz 9 (.ld false 1 (.t 8)),oz 10 (.call IX [(.t 7),(.t 9)]),oz 5 (.mv (.t 10)),oz 11 (.ext (.t 5) 0),oz 12 (.ext (.t 5) 1),oz 3 (.alloc 91 Ah.zc),on (.st 18 (.t 3) (.t 11)),oz 4 (.mv (.t 12))]) (.seq (rg false [oz 13 (.mv (.t 4)),oz 14 (.bin .eql (.t 13) (.k (.i .i64 0))),oz 15 (.mv (.t 14)),⟨some 16,some (15,true), .ld true 18 (.t 3)⟩,⟨some 17,some (15,true), .ld true 18 (.t 1)⟩,⟨some 18,some (15,true), .eq false (.agg (kk [(1, .i .i64),(16, .i .u8),(1, .i .i64)])) (.t 16) (.t 17)⟩,oz 19 (.pick (.t 15) (.t 18) (.k (.b false))),oz 2 (.mv (.t 19))]) .ret)))⟩
noncomputable def LB:Dx:=⟨false,2,20,[.tmp 4],(.seq (rg false [oz 2 (.box 91 18 (.t 0)),oz 3 (.box 91 18 (.t 1)),oz 4 (.mv (.k (.b false)))]) (.seq (.seq (rg false [oz 5 (.fa 0 (.t 2)),oz 6 (.ld true 17 (.t 5)),oz 7 (.fa 0 (.t 3)),oz 8 (.ld true 17 (.t 7)),oz 9 (.eq false (.agg (kk [(1, .i .i64),(16, .i .u8)])) (.t 6) (.t 8))]) (.cond (.t 9) (.seq (rg false [oz 10 (.fa 17 (.t 2)),oz 11 (.ld false 1 (.t 10)),oz 12 (.fa 17 (.t 3)),oz 13 (.ld false 1 (.t 12)),oz 14 (.bin .lss (.t 11) (.t 13)),oz 4 (.mv (.t 14))]) .ret) .skip)) (.seq (rg false [oz 15 (.fa 0 (.t 2)),oz 16 (.ld true 17 (.t 15)),oz 17 (.fa 0 (.t 3)),oz 18 (.ld true 17 (.t 17)),oz 19 (.call Hc [(.t 16),(.t 18)]),oz 4 (.mv (.t 19))]) .ret)))⟩
noncomputable def K2:Dx:=⟨false,1,20,[.tmp 2],(.seq (rg false [oz 1 (.box 25 17 (.t 0)),oz 2 (.mv (.k (.b false)))]) (.seq (rg true [oz 3 (.fa 0 (.t 1)),oz 4 (.ld false 1 (.t 3)),oz 5 (.bin .eql (.t 4) (.k (.i .i64 6))),oz 6 (.mv (.t 5)),⟨some 7,some (6,false), .fa 0 (.t 1)⟩,⟨some 8,some (6,false), .ld false 1 (.t 7)⟩,⟨some 9,some (6,false), .bin .eql (.t 8) (.k (.i .i64 4))⟩,⟨some 10,some (6,false), .mv (.t 9)⟩,⟨some 11,some (10,true), .ld true 17 (.t 1)⟩,⟨some 12,some (10,true), .fa 1 (.t 1)⟩,⟨some 13,some (10,true), .sla 16 1 (.t 12) none (some (.k (.i .i64 4)))⟩,⟨some 14,some (10,true), .s2a 4 1 (.t 13)⟩,⟨some 15,some (10,true), .ld true 4 (.t 14)⟩,⟨some 16,some (10,true), .call Hd [(.t 15)]⟩,⟨some 17,some (10,true), .eq false (.agg (kk [(1, .i .i64),(16, .i .u8)])) (.t 11) (.t 16)⟩,⟨some 18,some (6,false), .pick (.t 10) (.t 17) (.k (.b false))⟩,oz 19 (.pick (.t 6) (.k (.b true)) (.t 18)),oz 2 (.mv (.t 19))]) .ret))⟩
noncomputable def E2:Dx:=⟨false,2,9,[.tmp 4],(.seq (rg false [oz 4 (.mv (.k (.b false)))]) (.seq (rg false [oz 5 (.mv (.t 0)),oz 6 (.mv (.t 1)),oz 7 (.call Dv [(.t 5),(.t 6)]),oz 8 (.bin .geq (.t 7) (.k (.i .i64 0))),oz 4 (.mv (.t 8))]) .ret))⟩
noncomputable def Gc:Dx:=⟨false,2,9,[.tmp 4],(.seq (rg false [oz 4 (.mv (.k (.b false)))]) (.seq (rg false [oz 5 (.mv (.t 0)),oz 6 (.mv (.t 1)),oz 7 (.call El [(.t 5),(.t 6)]),oz 8 (.bin .geq (.t 7) (.k (.i .i64 0))),oz 4 (.mv (.t 8))]) .ret))⟩
noncomputable def Jo:Dx:=⟨false,1,31,[.tmp 2],(.seq (rg false [oz 1 (.box 93 70 (.t 0)),oz 2 (.mv (.k (.b false)))]) (.seq (.seq (rg false [oz 6 (.fa 0 (.t 1)),oz 7 (.ld false 1 (.t 6)),oz 8 (.call EZ [(.t 7)]),oz 9 (.bin .eql (.t 8) (.k (.s [])))]) (.cond (.t 9) (.seq (rg false [oz 2 (.mv (.k (.b false)))]) .ret) .skip)) (.seq (rg false [oz 10 (.fa 0 (.t 1)),oz 11 (.ld false 1 (.t 10)),oz 12 (.call Eo [(.t 11)]),oz 3 (.alloc 168 (zz [(3, .nilf)])),on (.st 3 (.t 3) (.t 12))]) (.seq (rg false [oz 14 (.fa 1 (.t 3)),oz 15 (.ld false 1 (.t 14)),oz 16 (.ld true 70 (.t 1)),oz 17 (.callv (.t 15) [(.t 16)]),oz 13 (.mv (.t 17)),oz 18 (.ext (.t 13) 0),oz 19 (.ext (.t 13) 1),oz 4 (.mv (.t 18)),oz 5 (.mv (.t 19))]) (.seq (.regd [oz 20 (.mv (.t 5)),oz 21 (.mv (.t 20)),⟨some 22,some (21,true), .fa 2 (.t 3)⟩,⟨some 23,some (21,true), .ld false 1 (.t 22)⟩,⟨some 24,some (21,true), .ld true 70 (.t 1)⟩,⟨some 25,some (21,true), .callv (.t 23) [(.t 24)]⟩,⟨some 26,some (21,true), .fa 0 (.t 1)⟩,⟨some 27,some (21,true), .ld false 1 (.t 26)⟩,⟨some 28,some (21,true), .bld Ae.zc [(0,1,(.t 27))]⟩,⟨some 29,some (21,true), .eq false (.agg (kk [(1, .i .i64),(32, .i .u8),(1, .i .u64),(1, .i .i64),(16, .i .u8),(2, .i .i64),(16, .i .u8),(1, .i .i64)])) (.t 25) (.t 28)⟩,oz 30 (.pick (.t 21) (.t 29) (.k (.b false))),oz 2 (.mv (.t 30))] [some (0,0),some (0,0),some (0,0),some (0,0),some (0,0),none,some (0,1),some (0,1),some (0,1),some (1,1),some (1,1),some (1,1)]) .ret)))))⟩
noncomputable def JT:Dx:=⟨true,1,33,[.cell true 3 2],(.seq (rg false [oz 2 (.alloc 168 (zz [(3, .nilf)]))]) (.seq (.seq (rg false [oz 3 (.mv (.t 0))]) (.blk 0 (.seq (.seq (rg false [oz 5 (.bin .eql (.t 3) (.k (.i .i64 1))),oz 4 (.mv (.t 5))]) (.cond (.t 4) .skip (.seq (rg false [oz 6 (.bin .eql (.t 3) (.k (.i .i64 5))),oz 4 (.mv (.t 6))]) (.cond (.t 4) .skip (rg false [oz 7 (.bin .eql (.t 3) (.k (.i .i64 8))),oz 4 (.mv (.t 7))]))))) (.cond (.t 4) (.seq (rg false [oz 8 (.call GE []),on (.st 3 (.t 2) (.t 8))]) .ret) (.seq (rg false [oz 10 (.bin .eql (.t 3) (.k (.i .i64 9))),oz 9 (.mv (.t 10))]) (.cond (.t 9) (.seq (rg false [oz 11 (.call GF []),on (.st 3 (.t 2) (.t 11))]) .ret) (.seq (rg false [oz 13 (.bin .eql (.t 3) (.k (.i .i64 12))),oz 12 (.mv (.t 13))]) (.cond (.t 12) (.seq (rg false [oz 14 (.call Fy []),on (.st 3 (.t 2) (.t 14))]) .ret) (.seq (.seq (rg false [oz 16 (.bin .eql (.t 3) (.k (.i .i64 2))),oz 15 (.mv (.t 16))]) (.cond (.t 15) .skip (rg false [oz 17 (.bin .eql (.t 3) (.k (.i .i64 10))),oz 15 (.mv (.t 17))]))) (.cond (.t 15) (.seq (rg false [oz 18 (.call CA [(.k (.i .u64 0)),(.k (.i .u64 65535))]),on (.st 3 (.t 2) (.t 18))]) .ret) (.seq (rg false [oz 20 (.bin .eql (.t 3) (.k (.i .i64 3))),oz 19 (.mv (.t 20))]) (.cond (.t 19) (.seq (rg false [oz 21 (.call CA [(.k (.i .u64 0)),(.k (.i .u64 4294967295))]),on (.st 3 (.t 2) (.t 21))]) .ret) (.seq (rg false [oz 23 (.bin .eql (.t 3) (.k (.i .i64 13))),oz 22 (.mv (.t 23))]) (.cond (.t 22) (.seq (rg false [oz 24 (.call CA [(.k (.i .u64 1)),(.k (.i .u64 1))]),on (.st 3 (.t 2) (.t 24))])
     .ret) (.seq (.seq (rg false [oz 26 (.bin .eql (.t 3) (.k (.i .i64 14))),oz 25 (.mv (.t 26))]) (.cond (.t 25) .skip (rg false [oz 27 (.bin .eql (.t 3) (.k (.i .i64 15))),oz 25 (.mv (.t 27))]))) (.cond (.t 25) (.seq (rg false [oz 28 (.call CA [(.k (.i .u64 0)),(.k (.i .u64 18446744073709551615))]),on (.st 3 (.t 2) (.t 28))]) .ret) (.seq (rg false [oz 30 (.bin .eql (.t 3) (.k (.i .i64 16))),oz 29 (.mv (.t 30))]) (.cond (.t 29) (.seq (rg false [oz 31 (.call CA [(.k (.i .u64 0)),(.k (.i .u64 20))]),on (.st 3 (.t 2) (.t 31))]) .ret) .skip)))))))))))))))))) (.seq (rg false [oz 32 (.call Hy []),on (.st 3 (.t 2) (.t 32))]) .ret)))⟩
noncomputable def Ky:Dx:=⟨false,1,12,[.tmp 2],(.seq (rg false [oz 2 (.mv (.k (.s [])))]) (.seq (.seq (rg false [oz 3 (.mv (.t 0)),oz 4 (.bin .lss (.t 3) (.k (.i .i64 1))),oz 5 (.mv (.t 4)),⟨some 6,some (5,false), .mv (.t 0)⟩,⟨some 7,some (5,false), .bin .gtr (.t 6) (.k (.i .i64 16))⟩,oz 8 (.pick (.t 5) (.k (.b true)) (.t 7))]) (.cond (.t 8) (.seq (rg false [oz 2 (.mv (.k (.s [])))]) .ret) .skip)) (.seq (rg false [oz 9 (.mv (.t 0)),oz 10 (.iaa 17 1 (.g 0) (.t 9)),oz 11 (.ld false 1 (.t 10)),oz 2 (.mv (.t 11))]) .ret)))⟩
noncomputable def Wx:AC:=(.seq (.seq (rg false [oz 13 (.mv (.t 6)),oz 14 (.mv (.t 1)),oz 15 (.bin .rem (.t 14) (.k (.i .i64 8))),oz 16 (.bin .gtr (.t 13) (.t 15))]) (.cond (.t 16) .skip (.exit 0))) (.seq (.blk 1 (rg false [oz 19 (.mv (.t 5)),oz 20 (.bin .quo (.t 19) (.k (.i .i64 2))),oz 5 (.mv (.t 20))])) (rg false [oz 17 (.mv (.t 6)),oz 18 (.bin .sub (.t 17) (.k (.i .i64 1))),oz 6 (.mv (.t 18))])))
noncomputable def L2:Dx:=⟨false,2,23,[.tmp 4],(.seq (rg false [oz 2 (.box 25 17 (.t 0)),oz 4 (.mv (.k (.i .i64 0)))]) (.seq (rg false [oz 7 (.mv (.t 1)),oz 8 (.bin .quo (.t 7) (.k (.i .i64 8))),oz 9 (.fa 1 (.t 2)),oz 10 (.iaa 16 1 (.t 9) (.t 8)),oz 11 (.ld false 1 (.t 10)),oz 12 (.cvi .i64 (.t 11)),oz 5 (.mv (.t 12))]) (.seq (.seq (rg false [oz 6 (.mv (.k (.i .i64 7)))]) (.blk 0 (.loop [1,5,6] Wx))) (.seq (rg false [oz 21 (.mv (.t 5)),oz 22 (.bin .rem (.t 21) (.k (.i .i64 2))),oz 4 (.mv (.t 22))]) .ret))))⟩
noncomputable def DO:Dx:=⟨false,2,17,[.tmp 4],(.seq (rg false [oz 4 (.mv (.k (.nili)))]) (.seq (rg false [oz 5 (.mv (.t 0)),oz 6 (.call Bv [(.t 5)])]) (.seq (rg false [oz 7 (.mv (.t 0)),oz 8 (.mv (.t 0)),oz 9 (.nilc (.t 8)),oz 10 (.fa 1 (.t 9)),oz 11 (.ld false 1 (.t 10)),oz 12 (.mv (.t 1)),oz 13 (.bll 1 (List.replicate 1 T.u8.zc) [(0,(.t 12))]),oz 14 (.app 5 1 1 (.t 11) (.t 13)),oz 15 (.nilc (.t 7)),oz 16 (.fa 1 (.t 15)),on (.st 1 (.t 16) (.t 14))]) (.seq (rg false [oz 4 (.mv (.k (.nili)))]) .ret))))⟩
noncomputable def K1:Dx:=⟨false,1,11,[.tmp 2],(.seq (rg false [oz 1 (.box 25 17 (.t 0)),oz 2 (.mv (.k (.i .i64 0)))]) (.seq (.blk 0 (.seq (rg false [oz 4 (.ld true 17 (.t 1)),oz 5 (.call Do [(.t 4)]),oz 6 (.un .not (.t 5)),oz 3 (.mv (.t 6))]) (.cond (.t 3) (.seq (rg false [oz 2 (.mv (.k (.i .i64 0)))]) .ret) (.seq (rg false [oz 8 (.fa 0 (.t 1)),oz 9 (.ld false 1 (.t 8)),oz 10 (.bin .eql (.t 9) (.k (.i .i64 4))),oz 7 (.mv (.t 10))]) (.cond (.t 7) (.seq (rg false [oz 2 (.mv (.k (.i .i64 32)))]) .ret) .skip))))) (.seq (rg false [oz 2 (.mv (.k (.i .i64 128)))]) .ret)))⟩
noncomputable def LC:Dx:=⟨false,1,19,[.tmp 2],(.seq (rg false [oz 1 (.box 25 17 (.t 0)),oz 2 (.mv (.k (.s [])))]) (.seq (.blk 0 (.seq (rg false [oz 4 (.ld true 17 (.t 1)),oz 5 (.call Do [(.t 4)]),oz 6 (.un .not (.t 5)),oz 3 (.mv (.t 6))]) (.cond (.t 3) (.seq (rg false [oz 2 (.mv (.k (.s [])))]) .ret) (.seq (rg false [oz 8 (.fa 0 (.t 1)),oz 9 (.ld false 1 (.t 8)),oz 10 (.bin .eql (.t 9) (.k (.i .i64 4))),oz 7 (.mv (.t 10))]) (.cond (.t 7) (.seq (rg false [oz 11 (.fa 1 (.t 1)),oz 12 (.sla 16 1 (.t 11) none (some (.k (.i .i64 4)))),oz 13 (.s2a 4 1 (.t 12)),oz 14 (.ld true 4 (.t 13)),oz 15 (.call GW [(.t 14)]),oz 2 (.mv (.t 15))]) .ret) .skip))))) (.seq (rg false [oz 16 (.fa 1 (.t 1)),oz 17 (.ld true 16 (.t 16)),oz 18 (.call Gt [(.t 17)]),oz 2 (.mv (.t 18))]) .ret)))⟩
noncomputable def EO:Dx:=⟨false,2,8,[.tmp 4],(.seq (rg false [oz 4 (.mv (.k (.s [])))]) (.seq (rg false [oz 5 (.mv (.t 0)),oz 6 (.mv (.t 1)),oz 7 (.call B9 [(.t 5),(.t 6)]),oz 4 (.mv (.t 7))]) .ret))⟩
noncomputable def Ct:Dx:=⟨false,2,8,[.tmp 4],(.seq (rg false [oz 4 (.mv (.k (.i .i64 0)))]) (.seq (rg false [oz 5 (.mv (.t 0)),oz 6 (.mv (.t 1)),oz 7 (.call BV [(.t 5),(.t 6)]),oz 4 (.mv (.t 7))]) .ret))⟩
noncomputable def Pc:Dx:=⟨false,2,26,[.cell true 18 4, .tmp 5],(.seq (rg false [oz 2 (.box 25 17 (.t 0)),oz 4 (.alloc 91 Ah.zc),oz 5 (.mv (.k (.i .i64 0)))]) (.seq (.blk 0 (.seq (rg false [oz 7 (.ld true 17 (.t 2)),oz 8 (.call Do [(.t 7)]),oz 9 (.un .not (.t 8)),oz 6 (.mv (.t 9))]) (.cond (.t 6) (.seq (rg false [oz 10 (.bld Ah.zc []),on (.st 18 (.t 4) (.t 10)),oz 5 (.mv (.k (.i .i64 1)))]) .ret) (.seq (rg false [oz 12 (.mv (.t 1)),oz 13 (.bin .lss (.t 12) (.k (.i .i64 0))),oz 14 (.mv (.t 13)),⟨some 15,some (14,false), .mv (.t 1)⟩,⟨some 16,some (14,false), .ld true 17 (.t 2)⟩,⟨some 17,some (14,false), .call Fa [(.t 16)]⟩,⟨some 18,some (14,false), .bin .gtr (.t 15) (.t 17)⟩,oz 19 (.pick (.t 14) (.k (.b true)) (.t 18)),oz 11 (.mv (.t 19))]) (.cond (.t 11) (.seq (rg false [oz 20 (.bld Ah.zc []),on (.st 18 (.t 4) (.t 20)),oz 5 (.mv (.k (.i .i64 6)))]) .ret) .skip))))) (.seq (rg false [oz 21 (.ld true 17 (.t 2)),oz 22 (.mv (.t 1)),oz 23 (.call Hb [(.t 21),(.t 22)]),oz 24 (.mv (.t 1)),oz 25 (.bld Ah.zc [(0,17,(.t 23)),(17,1,(.t 24))]),on (.st 18 (.t 4) (.t 25)),oz 5 (.mv (.k (.i .i64 0)))]) .ret)))⟩
noncomputable def LE:Dx:=⟨false,2,21,[.tmp 4],(.seq (rg false [oz 2 (.box 25 17 (.t 0)),oz 3 (.box 25 17 (.t 1)),oz 4 (.mv (.k (.b false)))]) (.seq (.seq (rg false [oz 5 (.fa 0 (.t 2)),oz 6 (.ld false 1 (.t 5)),oz 7 (.fa 0 (.t 3)),oz 8 (.ld false 1 (.t 7)),oz 9 (.bin .neq (.t 6) (.t 8))]) (.cond (.t 9) (.seq (rg false [oz 10 (.fa 0 (.t 2)),oz 11 (.ld false 1 (.t 10)),oz 12 (.fa 0 (.t 3)),oz 13 (.ld false 1 (.t 12)),oz 14 (.bin .lss (.t 11) (.t 13)),oz 4 (.mv (.t 14))]) .ret) .skip)) (.seq (rg true [oz 15 (.fa 1 (.t 2)),oz 16 (.sla 16 1 (.t 15) none none),oz 17 (.fa 1 (.t 3)),oz 18 (.sla 16 1 (.t 17) none none),oz 19 (.call Er [(.t 16),(.t 18)]),oz 20 (.bin .lss (.t 19) (.k (.i .i64 0))),oz 4 (.mv (.t 20))]) .ret)))⟩
noncomputable def LF:Dx:=⟨false,1,10,[.cell true 17 2],(.seq (rg false [oz 1 (.box 156 4 (.t 0)),oz 2 (.alloc 25 Ak.zc)]) (.seq (rg false [oz 4 (.bld Ak.zc [(0,1,(.k (.i .i64 4)))]),oz 3 (.alloc 25 Ak.zc),on (.st 17 (.t 3) (.t 4))]) (.seq (.regd [oz 5 (.fa 1 (.t 3)),oz 6 (.sla 16 1 (.t 5) none none),oz 7 (.sla 4 1 (.t 1) none none),oz 8 (.cpy 1 (.t 6) (.t 7))] [some (0,0),some (0,0),some (0,0),none]) (.seq (rg false [oz 9 (.ld true 17 (.t 3)),on (.st 17 (.t 2) (.t 9))]) .ret))))⟩
noncomputable def Oa:AC:=(.seq (.seq (rg false [oz 33 (.mv (.t 8)),oz 34 (.mv (.t 0)),oz 35 (.lens (.t 34)),oz 36 (.bin .lss (.t 33) (.t 35))]) (.cond (.t 36) .skip (.exit 0))) (.seq (.blk 1 (.seq (rg false [oz 39 (.mv (.t 0)),oz 40 (.mv (.t 8)),oz 41 (.ixs (.t 39) (.t 40)),oz 42 (.call B7 [(.t 6),(.t 41)])]) (.cond (.t 42) (.seq (rg false [oz 43 (.mv (.t 8)),oz 4 (.mv (.t 43))]) .ret) .skip))) (rg false [oz 37 (.mv (.t 8)),oz 38 (.bin .add (.t 37) (.k (.i .i64 1))),oz 8 (.mv (.t 38))])))
noncomputable def NZ:AC:=(.seq (rg false [oz 46 (.nxt (.t 45)),oz 47 (.ext (.t 46) 0)]) (.seq (.cond (.t 47) .skip (.exit 2)) (.blk 3 (.seq (rg false [oz 48 (.ext (.t 46) 1),oz 49 (.ext (.t 46) 2),oz 9 (.mv (.t 48)),oz 10 (.mv (.t 49))]) (.seq (rg false [oz 50 (.mv (.t 1)),oz 51 (.mv (.t 10)),oz 52 (.call Cy [(.t 50),(.t 51)]),oz 53 (.bin .geq (.t 52) (.k (.i .i64 0)))]) (.cond (.t 53) (.seq (rg false [oz 54 (.mv (.t 9)),oz 4 (.mv (.t 54))]) .ret) .skip))))))
noncomputable def Gb:Dx:=⟨false,2,55,[.tmp 4],(.seq (rg false [oz 4 (.mv (.k (.i .i64 0)))]) (.seq (.seq (rg false [oz 11 (.mv (.t 1)),oz 12 (.bin .eql (.t 11) (.k (.s [])))]) (.cond (.t 12) (.seq (rg false [oz 4 (.mv (.k (.i .i64 (-1))))]) .ret) .skip)) (.seq (.seq (rg false [oz 13 (.mv (.t 1)),oz 14 (.lens (.t 13)),oz 15 (.bin .eql (.t 14) (.k (.i .i64 1)))]) (.cond (.t 15) (.seq (rg false [oz 16 (.mv (.t 1)),oz 17 (.ixs (.t 16) (.k (.i .i64 0))),oz 18 (.cvi .i32 (.t 17)),oz 5 (.mv (.t 18))]) (.seq (.seq (rg false [oz 19 (.mv (.t 5)),oz 20 (.bin .geq (.t 19) (.k (.i .i32 128)))]) (.cond (.t 20) (rg false [oz 5 (.mv (.k (.i .i32 65533)))]) .skip)) (.seq (rg false [oz 21 (.mv (.t 0)),oz 22 (.mv (.t 5)),oz 23 (.call Cy [(.t 21),(.t 22)]),oz 4 (.mv (.t 23))]) .ret))) .skip)) (.seq (.seq (rg false [oz 24 (.mv (.t 0)),oz 25 (.lens (.t 24)),oz 26 (.call BL [(.t 25)])]) (.cond (.t 26) (.seq (rg false [oz 28 (.mv (.t 1)),oz 29 (.call Cu [(.t 28)]),oz 27 (.mv (.t 29)),oz 30 (.ext (.t 27) 0),oz 31 (.ext (.t 27) 1),oz 6 (.alloc 222 (A2 256 T.b).zc),on (.st 256 (.t 6) (.t 30)),oz 7 (.mv (.t 31))]) (.seq (rg false [oz 32 (.mv (.t 7))]) (.cond (.t 32) (.seq (.seq (rg false [oz 8 (.mv (.k (.i .i64 0)))]) (.blk 0 (.loop [0,6,8] Oa))) (.seq (rg false [oz 4 (.mv (.k (.i .i64 (-1))))]) .ret)) .skip))) .skip)) (.seq (.seq (rg false [oz 44 (.mv (.t 0)),oz 45 (.rng (.t 44))]) (.blk 2 (.loop [1,45] NZ))) (.seq (rg false [oz 4 (.mv (.k (.i .i64 (-1))))]) .ret))))))⟩
noncomputable def H9:Dx:=⟨false,2,8,[.tmp 4],(.seq (rg false [oz 4 (.mv (.k (.i .i64 0)))]) (.seq (rg false [oz 5 (.mv (.t 0)),oz 6 (.mv (.t 1)),oz 7 (.call CH [(.t 5),(.t 6)]),oz 4 (.mv (.t 7))]) .ret))⟩
noncomputable def LZ:Dx:=⟨true,0,2,[.cell true 3 0],(.seq (rg false [oz 0 (.alloc 168 (zz [(3, .nilf)]))]) (.seq (rg false [oz 1 (.bld (zz [(3, .nilf)]) [(0,1,(.f GX)),(1,1,(.f C7)),(2,1,(.f C6))]),on (.st 3 (.t 0) (.t 1))]) .ret))⟩
noncomputable def Ma:Dx:=⟨true,0,2,[.cell true 3 0],(.seq (rg false [oz 0 (.alloc 168 (zz [(3, .nilf)]))]) (.seq (rg false [oz 1 (.bld (zz [(3, .nilf)]) [(0,1,(.f GY)),(1,1,(.f C9)),(2,1,(.f C8))]),on (.st 3 (.t 0) (.t 1))]) .ret))⟩
noncomputable def JV:Dx:=⟨true,0,2,[.cell true 3 0],(.seq (rg false [oz 0 (.alloc 168 (zz [(3, .nilf)]))]) (.seq (rg false [oz 1 (.bld (zz [(3, .nilf)]) [(0,1,(.f FX)),(1,1,(.f Cg)),(2,1,(.f Cf))]),on (.st 3 (.t 0) (.t 1))]) .ret))⟩
noncomputable def JU:Dx:=⟨true,2,8,[.cell true 3 4],(.seq (rg false [oz 2 (.box 81 1 (.t 0)),oz 3 (.box 81 1 (.t 1)),oz 4 (.alloc 168 (zz [(3, .nilf)]))]) (.seq (rg false [oz 5 (.mkf (.func B1) [] [(.t 3),(.t 2)]),oz 6 (.mkf (.func Bj) [] [(.t 2),(.t 3)]),oz 7 (.bld (zz [(3, .nilf)]) [(0,1,(.t 5)),(1,1,(.t 6)),(2,1,(.f Bd))]),on (.st 3 (.t 4) (.t 7))]) .ret))⟩
noncomputable def N7:Dx:=⟨true,0,2,[.cell true 3 0],(.seq (rg false [oz 0 (.alloc 168 (zz [(3, .nilf)]))]) (.seq (rg false [oz 1 (.bld (zz [(3, .nilf)]) [(0,1,(.f H8)),(1,1,(.f CU)),(2,1,(.f CT))]),on (.st 3 (.t 0) (.t 1))]) .ret))⟩
noncomputable def W0:AC:=(.seq (rg false [oz 8 (.bin .lss (.t 7) (.k (.i .i64 4)))]) (.seq (.cond (.t 8) .skip (.exit 0)) (.seq (.blk 1 (.seq (rg false [oz 9 (.mv (.t 7)),oz 10 (.ixa 4 1 false (.t 6) (.t 7)),oz 4 (.mv (.t 9)),oz 5 (.mv (.t 10))]) (rg false [oz 11 (.mv (.t 4)),oz 12 (.mv (.t 5)),oz 13 (.cvi .u64 (.t 12)),oz 14 (.call CV [(.t 13)]),oz 15 (.iaa 4 1 (.t 3) (.t 11)),on (.st 1 (.t 15) (.t 14))]))) (rg false [oz 16 (.bin .add (.t 7) (.k (.i .i64 1))),oz 7 (.mv (.t 16))]))))
noncomputable def L7:Dx:=⟨false,1,19,[.tmp 2],(.seq (rg false [oz 1 (.box 156 4 (.t 0)),oz 2 (.mv (.k (.s [])))]) (.seq (rg false [oz 3 (.alloc 228 (A2 4 A5).zc)]) (.seq (.seq (rg false [oz 6 (.ld true 4 (.t 1)),oz 7 (.mv (.k (.i .i64 0)))]) (.blk 0 (.loop [3,6,7] W0))) (.seq (rg false [oz 17 (.sla 4 1 (.t 3) none none),oz 18 (.call DW [(.t 17),(.k (.s [46]))]),oz 2 (.mv (.t 18))]) .ret))))⟩
noncomputable def Kz:Dx:=⟨false,1,27,[.tmp 2],(.seq (rg false [oz 1 (.box 23 16 (.t 0)),oz 2 (.mv (.k (.s [])))]) (.seq (rg false [oz 6 (.ld true 16 (.t 1)),oz 7 (.call ED [(.t 6)]),oz 3 (.alloc 229 (A2 8 T.u16).zc),on (.st 8 (.t 3) (.t 7))]) (.seq (rg false [oz 9 (.ld true 8 (.t 3)),oz 10 (.call Ep [(.t 9)]),oz 8 (.mv (.t 10)),oz 11 (.ext (.t 8) 0),oz 12 (.ext (.t 8) 1),oz 4 (.mv (.t 11)),oz 5 (.mv (.t 12))]) (.seq (.seq (rg false [oz 13 (.mv (.t 5)),oz 14 (.bin .lss (.t 13) (.k (.i .i64 2)))]) (.cond (.t 14) (.seq (rg false [oz 15 (.sla 8 1 (.t 3) none none),oz 16 (.call EL [(.t 15)]),oz 2 (.mv (.t 16))]) .ret) .skip)) (.seq (rg true [oz 17 (.mv (.t 4)),oz 18 (.sla 8 1 (.t 3) none (some (.t 17))),oz 19 (.call EL [(.t 18)]),oz 20 (.bin .add (.t 19) (.k (.s [58,58]))),oz 21 (.mv (.t 4)),oz 22 (.mv (.t 5)),oz 23 (.bin .add (.t 21) (.t 22)),oz 24 (.sla 8 1 (.t 3) (some (.t 23)) none),oz 25 (.call EL [(.t 24)]),oz 26 (.bin .add (.t 20) (.t 25)),oz 2 (.mv (.t 26))]) .ret)))))⟩
noncomputable def CL:Dx:=⟨false,2,32,[.tmp 4],(.seq (rg false [oz 4 (.mv (.k (.s [])))]) (.seq (.seq (rg false [oz 9 (.mv (.t 1)),oz 10 (.bin .eql (.t 9) (.k (.i .i64 10)))]) (.cond (.t 10) (.seq (.seq (rg false [oz 11 (.mv (.t 0)),oz 12 (.bin .lss (.t 11) (.k (.i .u64 100)))]) (.cond (.t 12) (.seq (rg false [oz 13 (.mv (.t 0)),oz 14 (.cvi .i64 (.t 13)),oz 15 (.call Cd [(.t 14)]),oz 4 (.mv (.t 15))]) .ret) .skip)) (.seq (rg false [oz 5 (.alloc 240 (A2 24 T.u8).zc)]) (.seq (rg false [oz 16 (.mv (.t 0)),oz 17 (.call BF [(.t 16)]),oz 6 (.mv (.t 17))]) (.seq (rg false [oz 18 (.mv (.t 6)),oz 19 (.sla 24 1 (.t 5) none (some (.t 18))),oz 20 (.mv (.t 0)),oz 21 (.call BN [(.t 19),(.t 20)])]) (.seq (rg false [oz 22 (.mv (.t 6)),oz 23 (.sla 24 1 (.t 5) none (some (.t 22))),oz 24 (.cvs (.t 23)),oz 4 (.mv (.t 24))]) .ret))))) .skip)) (.seq (rg false [oz 26 (.mv (.t 0)),oz 27 (.mv (.t 1)),oz 28 (.call IW [(.k (.nils)),(.t 26),(.t 27),(.k (.b false)),(.k (.b false))]),oz 25 (.mv (.t 28)),oz 29 (.ext (.t 25) 0),oz 30 (.ext (.t 25) 1),oz 7 (.mv (.t 29)),oz 8 (.mv (.t 30))]) (.seq (rg false [oz 31 (.mv (.t 8)),oz 4 (.mv (.t 31))]) .ret))))⟩
noncomputable def W2:AC:=(.seq (rg false [oz 12 (.bin .lss (.t 11) (.k (.i .i64 16)))]) (.seq (.cond (.t 12) .skip (.exit 0)) (.seq (.blk 1 (.seq (rg false [oz 13 (.mv (.t 11)),oz 5 (.mv (.t 13))]) (.seq (rg false [oz 14 (.mv (.t 1)),oz 15 (.mv (.t 5)),oz 16 (.bin .mul (.k (.i .i64 8)) (.t 15)),oz 17 (.bin .sub (.t 14) (.t 16)),oz 18 (.mnx true (.t 17) (.k (.i .i64 0))),oz 19 (.mnx false (.t 18) (.k (.i .i64 8))),oz 6 (.mv (.t 19))]) (.seq (.seq (rg false [oz 20 (.mv (.t 1)),oz 21 (.bin .lss (.t 20) (.k (.i .i64 0)))]) (.cond (.t 21) (rg false [oz 6 (.mv (.k (.i .i64 0)))]) .skip)) (rg false [oz 22 (.mv (.t 5)),oz 23 (.fa 1 (.t 2)),oz 24 (.iaa 16 1 (.t 23) (.t 22)),oz 25 (.ld false 1 (.t 24)),oz 26 (.mv (.t 6)),oz 27 (.bin .sub (.k (.i .i64 8)) (.t 26)),oz 28 (.cvi .u64 (.t 27)),oz 29 (.bin .shl (.k (.i .u8 255)) (.t 28)),oz 30 (.bin .and (.t 25) (.t 29)),oz 31 (.fa 1 (.t 2)),oz 32 (.iaa 16 1 (.t 31) (.t 22)),on (.st 1 (.t 32) (.t 30))]))))) (rg false [oz 33 (.bin .add (.t 11) (.k (.i .i64 1))),oz 11 (.mv (.t 33))]))))
noncomputable def LD:Dx:=⟨false,2,35,[.cell true 17 4],(.seq (rg false [oz 2 (.box 25 17 (.t 0)),oz 4 (.alloc 25 Ak.zc)]) (.seq (.seq (rg false [oz 7 (.ld true 17 (.t 2)),oz 8 (.call Do [(.t 7)]),oz 9 (.un .not (.t 8))]) (.cond (.t 9) (.seq (rg false [oz 10 (.bld Ak.zc []),on (.st 17 (.t 4) (.t 10))]) .ret) .skip)) (.seq (.seq (rg false [oz 11 (.mv (.k (.i .i64 0)))]) (.blk 0 (.loop [1,2,4,11] W2))) (.seq (rg false [oz 34 (.ld true 17 (.t 2)),on (.st 17 (.t 4) (.t 34))]) .ret))))⟩
noncomputable def HI:Dx:=⟨false,2,8,[.tmp 4],(.seq (rg false [oz 4 (.mv (.k (.i .i64 0)))]) (.seq (rg false [oz 5 (.mv (.t 0)),oz 6 (.mv (.t 1)),oz 7 (.call Dh [(.t 5),(.t 6)]),oz 4 (.mv (.t 7))]) .ret))⟩
noncomputable def Nz:AC:=(.seq (rg false [oz 176 (.nxt (.t 175)),oz 177 (.ext (.t 176) 0)]) (.seq (.cond (.t 177) .skip (.exit 9)) (.blk 10 (.seq (rg false [oz 178 (.ext (.t 176) 1),oz 179 (.ext (.t 176) 2),oz 5 (.mv (.t 178)),oz 6 (.mv (.t 179))]) (.seq (rg false [oz 180 (.mv (.t 6)),oz 181 (.bin .eql (.t 180) (.k (.i .i32 65533)))]) (.cond (.t 181) (.seq (rg false [oz 182 (.mv (.t 5)),oz 4 (.mv (.t 182))]) .ret) .skip))))))
noncomputable def Ny:AC:=(.seq (.seq (rg false [oz 48 (.mv (.t 12)),oz 49 (.mv (.t 7)),oz 50 (.lens (.t 49)),oz 51 (.bin .lss (.t 48) (.t 50))]) (.cond (.t 51) .skip (.exit 3))) (.seq (.blk 4 (.seq (rg true [oz 54 (.mv (.t 0)),oz 55 (.mv (.t 9)),oz 56 (.mv (.t 12)),oz 57 (.bin .sub (.t 55) (.t 56)),oz 58 (.ixs (.t 54) (.t 57)),oz 59 (.mv (.t 7)),oz 60 (.mv (.t 8)),oz 61 (.mv (.t 12)),oz 62 (.bin .sub (.t 60) (.t 61)),oz 63 (.ixs (.t 59) (.t 62)),oz 64 (.bin .neq (.t 58) (.t 63))]) (.cond (.t 64) .stop .skip))) (rg false [oz 52 (.mv (.t 12)),oz 53 (.bin .add (.t 52) (.k (.i .i64 1))),oz 12 (.mv (.t 53))])))
noncomputable def Nx:AC:=(.seq (.seq (rg false [oz 23 (.mv (.t 9)),oz 24 (.mv (.t 0)),oz 25 (.lens (.t 24)),oz 26 (.bin .lss (.t 23) (.t 25))]) (.cond (.t 26) .skip (.exit 1))) (.blk 2 (.scope (.seq (.seq (rg true [oz 27 (.mv (.t 0)),oz 28 (.mv (.t 9)),oz 29 (.ixs (.t 27) (.t 28)),oz 30 (.mv (.t 7)),oz 31 (.mv (.t 8)),oz 32 (.ixs (.t 30) (.t 31)),oz 33 (.bin .neq (.t 29) (.t 32))]) (.cond (.t 33) (.seq (rg true [oz 34 (.mv (.t 0)),oz 35 (.mv (.t 9)),oz 36 (.bin .add (.t 35) (.k (.i .i64 1))),oz 37 (.sls (.t 34) (some (.t 36)) none),oz 38 (.mv (.t 7)),oz 39 (.mv (.t 8)),oz 40 (.ixs (.t 38) (.t 39)),oz 41 (.call Cz [(.t 37),(.t 40)]),oz 11 (.mv (.t 41))]) (.seq (.seq (rg false [oz 42 (.mv (.t 11)),oz 43 (.bin .lss (.t 42) (.k (.i .i64 0)))]) (.cond (.t 43) (.seq (rg false [oz 4 (.mv (.k (.i .i64 (-1))))]) .ret) .skip)) (rg false [oz 44 (.mv (.t 9)),oz 45 (.mv (.t 11)),oz 46 (.bin .add (.t 45) (.k (.i .i64 1))),oz 47 (.bin .add (.t 44) (.t 46)),oz 9 (.mv (.t 47))]))) .skip)) (.seq (.seq (rg false [oz 12 (.mv (.k (.i .i64 1)))]) (.blk 3 (.loop [0,7,8,9,12] Ny))) (.seq (.seq (rg false [oz 65 (.mv (.t 9)),oz 66 (.mv (.t 8)),oz 67 (.bin .sub (.t 65) (.t 66)),oz 4 (.mv (.t 67))]) .ret) (.seq .skip (.seq (rg false [oz 68 (.mv (.t 10)),oz 69 (.bin .add (.t 68) (.k (.i .i64 1))),oz 10 (.mv (.t 69))]) (.seq (rg false [oz 70 (.mv (.t 9)),oz 71 (.bin .add (.t 70) (.k (.i .i64 1))),oz 9 (.mv (.t 71))]) (.seq (rg false [oz 72 (.mv (.k (.b true))),⟨some 73,some (72,true), .mv (.t 10)⟩,⟨some 74,some (72,true), .mv (.t 9)⟩,⟨some 75,some (72,true), .call Ed [(.t 74)]⟩,⟨some 76,some (72,true), .bin .gtr (.t 73) (.t 75)⟩,oz 77 (.pick (.t 72) (.t 76) (.k (.b false))),oz 78 (.mv (.t 77)),⟨some 79,some (78,true), .mv (.t 9)⟩,⟨some 80,some (78,true), .mv (.t 0)⟩,⟨some 81,some (78,true), .lens (.t 80)⟩,⟨some 82,some (78,true), .bin .lss (.t 79) (.t 81)⟩,oz 83 (.pick (.t 78) (.t 82) (.k (.b false))),oz 84 (.mv (.t 83)),⟨some 85,some (84,false), .mv (.k (.b false))⟩,⟨some 86,some (85,true), .mv (.t 10)⟩,⟨some 87,some (85,true), .mv (.t 9)⟩,⟨some 88,some (85,true), .bin .shr (.t 87) (.k (.i .u64 4))⟩,⟨some 89,some (85,true), .bin .add (.k (.i .i64 4)) (.t 88)⟩,⟨some 90,some (85,true), .bin .geq (.t 86) (.t 89)⟩,⟨some 91,some (84,false), .pick (.t 85) (.t 90) (.k (.b false))⟩,⟨some 92,some (84,false), .mv (.t 91)⟩,⟨some 93,some (92,true), .mv (.t 9)⟩,⟨some 94,some (92,true), .mv (.t 0)⟩,⟨some 95,some (92,true), .lens (.t 94)⟩,⟨some 96,some (92,true), .bin .lss (.t 93) (.t 95)⟩,⟨some 97,some (84,false), .pick (.t 92) (.t 96) (.k (.b false))⟩,oz 98 (.pick (.t 84) (.k (.b true)) (.t 97))])
  (.cond (.t 98) .stop .skip)))))))))))
noncomputable def Nw:AC:=(.seq (.seq (rg false [oz 140 (.mv (.t 16)),oz 141 (.mv (.t 7)),oz 142 (.lens (.t 141)),oz 143 (.bin .lss (.t 140) (.t 142))]) (.cond (.t 143) .skip (.exit 7))) (.seq (.blk 8 (.seq (rg true [oz 146 (.mv (.t 0)),oz 147 (.mv (.t 9)),oz 148 (.mv (.t 16)),oz 149 (.bin .sub (.t 147) (.t 148)),oz 150 (.ixs (.t 146) (.t 149)),oz 151 (.mv (.t 7)),oz 152 (.mv (.t 8)),oz 153 (.mv (.t 16)),oz 154 (.bin .sub (.t 152) (.t 153)),oz 155 (.ixs (.t 151) (.t 154)),oz 156 (.bin .neq (.t 150) (.t 155))]) (.cond (.t 156) (.exit 6) .skip))) (rg false [oz 144 (.mv (.t 16)),oz 145 (.bin .add (.t 144) (.k (.i .i64 1))),oz 16 (.mv (.t 145))])))
noncomputable def Nv:AC:=(.seq (.seq (rg false [oz 121 (.mv (.t 9)),oz 122 (.mv (.t 0)),oz 123 (.lens (.t 122)),oz 124 (.bin .lss (.t 121) (.t 123))]) (.cond (.t 124) .skip (.exit 5))) (.seq (.blk 6 (.seq (rg false [oz 127 (.mv (.t 0)),oz 128 (.mv (.t 9)),oz 129 (.ixs (.t 127) (.t 128)),oz 130 (.mv (.t 14)),oz 131 (.bin .eql (.t 129) (.t 130)),oz 132 (.mv (.t 131)),⟨some 133,some (132,true), .mv (.t 0)⟩,⟨some 134,some (132,true), .mv (.t 9)⟩,⟨some 135,some (132,true), .bin .sub (.t 134) (.k (.i .i64 1))⟩,⟨some 136,some (132,true), .ixs (.t 133) (.t 135)⟩,⟨some 137,some (132,true), .mv (.t 15)⟩,⟨some 138,some (132,true), .bin .eql (.t 136) (.t 137)⟩,oz 139 (.pick (.t 132) (.t 138) (.k (.b false)))]) (.cond (.t 139) (.seq (.seq (rg false [oz 16 (.mv (.k (.i .i64 2)))]) (.blk 7 (.loop [0,7,8,9,14,15,16] Nw))) (.seq (rg false [oz 157 (.mv (.t 9)),oz 158 (.mv (.t 8)),oz 159 (.bin .sub (.t 157) (.t 158)),oz 4 (.mv (.t 159))]) .ret)) .skip))) (rg false [oz 125 (.mv (.t 9)),oz 126 (.bin .add (.t 125) (.k (.i .i64 1))),oz 9 (.mv (.t 126))])))
noncomputable def Fm:Dx:=⟨false,2,187,[.tmp 4],(.seq (rg false [oz 4 (.mv (.k (.i .i64 0)))]) (.blk 0 (.seq (rg false [oz 161 (.mv (.t 1)),oz 162 (.bin .leq (.k (.i .i32 0)) (.t 161)),oz 163 (.mv (.t 162)),⟨some 164,some (163,true), .mv (.t 1)⟩,⟨some 165,some (163,true), .bin .lss (.t 164) (.k (.i .i32 128))⟩,oz 166 (.pick (.t 163) (.t 165) (.k (.b false))),oz 160 (.mv (.t 166))]) (.cond (.t 160) (.seq (rg false [oz 167 (.mv (.t 0)),oz 168 (.mv (.t 1)),oz 169 (.cvi .u8 (.t 168)),oz 170 (.call Cz [(.t 167),(.t 169)]),oz 4 (.mv (.t 170))]) .ret) (.seq (rg false [oz 172 (.mv (.t 1)),oz 173 (.bin .eql (.t 172) (.k (.i .i32 65533))),oz 171 (.mv (.t 173))]) (.cond (.t 171) (.seq (.seq (rg false [oz 174 (.mv (.t 0)),oz 175 (.rng (.t 174))]) (.blk 9 (.loop [175] Nz))) (.seq (rg false [oz 4 (.mv (.k (.i .i64 (-1))))]) .ret)) (.seq (rg false [oz 184 (.mv (.t 1)),oz 185 (.call Cc [(.t 184)]),oz 186 (.un .not (.t 185)),oz 183 (.mv (.t 186))]) (.cond (.t 183) (.seq (rg false [oz 4 (.mv (.k (.i .i64 (-1))))]) .ret) (.scope (.seq (rg false [oz 17 (.mv (.t 1)),oz 18 (.cvc (.t 17)),oz 7 (.mv (.t 18))]) (.seq (rg false [oz 19 (.mv (.t 7)),oz 20 (.lens (.t 19)),oz 21 (.bin .sub (.t 20) (.k (.i .i64 1))),oz 8 (.mv (.t 21))]) (.seq (rg false [oz 22 (.mv (.t 8)),oz 9 (.mv (.t 22))]) (.seq (rg false [oz 10 (.mv (.k (.i .i64 0)))]) (.seq (.blk 1 (.loop [0,7,8,9] Nx)) (.seq (.seq (rg false [oz 4 (.mv (.k (.i .i64 (-1))))]) .ret) (.seq .skip (.seq (.cond (.k (.b true)) (.seq (rg false [oz 99 (.mv (.t 0)),oz 100 (.mv (.t 9)),oz 101 (.mv (.t 8)),oz 102 (.bin .sub (.t 100) (.t 101)),oz 103 (.sls (.t 99) (some (.t 102)) none),oz 104 (.mv (.t 1)),oz 105 (.cvc (.t 104)),oz 106 (.call IG [(.t 103),(.t 105)]),oz 13 (.mv (.t 106))])
    (.seq (rg false [oz 107 (.mv (.t 13)),oz 108 (.bin .geq (.t 107) (.k (.i .i64 0)))]) (.cond (.t 108) (.seq (rg false [oz 109 (.mv (.t 9)),oz 110 (.mv (.t 13)),oz 111 (.bin .add (.t 109) (.t 110)),oz 112 (.mv (.t 8)),oz 113 (.bin .sub (.t 111) (.t 112)),oz 4 (.mv (.t 113))]) .ret) .skip))) (.scope (.seq (rg false [oz 114 (.mv (.t 7)),oz 115 (.mv (.t 8)),oz 116 (.ixs (.t 114) (.t 115)),oz 14 (.mv (.t 116))]) (.seq (rg false [oz 117 (.mv (.t 7)),oz 118 (.mv (.t 8)),oz 119 (.bin .sub (.t 118) (.k (.i .i64 1))),oz 120 (.ixs (.t 117) (.t 119)),oz 15 (.mv (.t 120))]) (.seq .skip (.blk 5 (.loop [0,7,8,9,14,15] Nv))))))) (.seq (rg false [oz 4 (.mv (.k (.i .i64 (-1))))]) .ret))))))))))))))))))⟩
noncomputable def Di:Dx:=⟨false,1,5,[.tmp 2],(.seq (rg false [oz 2 (.mv (.k (.b false)))]) (.seq (rg false [oz 3 (.mv (.t 0)),oz 4 (.bin .gtr (.t 3) (.k (.i .i64 8))),oz 2 (.mv (.t 4))]) .ret))⟩
noncomputable def Ld:AC:=(.seq (.seq (rg false [oz 6 (.mv (.t 4)),oz 7 (.mv (.t 0)),oz 8 (.lens (.t 7)),oz 9 (.bin .lss (.t 6) (.t 8))]) (.cond (.t 9) .skip (.exit 0))) (.seq (.blk 1 (.seq (rg false [oz 12 (.mv (.t 0)),oz 13 (.mv (.t 4)),oz 14 (.ixs (.t 12) (.t 13)),oz 5 (.mv (.t 14))]) (.seq (.seq (rg false [oz 15 (.mv (.t 5)),oz 16 (.bin .geq (.t 15) (.k (.i .u8 128)))]) (.cond (.t 16) (.seq (rg false [oz 17 (.ld true 256 (.t 2)),on (.st 256 (.t 2) (.t 17)),oz 3 (.mv (.k (.b false)))]) .ret) .skip)) (rg false [oz 18 (.mv (.t 5)),oz 19 (.iaa 256 1 (.t 2) (.t 18)),on (.st 1 (.t 19) (.k (.b true)))])))) (rg false [oz 10 (.mv (.t 4)),oz 11 (.bin .add (.t 10) (.k (.i .i64 1))),oz 4 (.mv (.t 11))])))
noncomputable def Ef:Dx:=⟨false,1,21,[.cell true 256 2, .tmp 3],(.seq (rg false [oz 2 (.alloc 222 (A2 256 T.b).zc),oz 3 (.mv (.k (.b false)))]) (.seq (.seq (rg false [oz 4 (.mv (.k (.i .i64 0)))]) (.blk 0 (.loop [0,2,4] Ld))) (.seq (rg false [oz 20 (.ld true 256 (.t 2)),on (.st 256 (.t 2) (.t 20)),oz 3 (.mv (.k (.b true)))]) .ret)))⟩
noncomputable def CJ:Dx:=⟨false,2,10,[.tmp 4],(.seq (rg false [oz 4 (.mv (.k (.b false)))]) (.seq (rg false [oz 5 (.mv (.t 0)),oz 6 (.mv (.t 1)),oz 7 (.nilc (.t 5)),oz 8 (.iaa 256 1 (.t 7) (.t 6)),oz 9 (.ld false 1 (.t 8)),oz 4 (.mv (.t 9))]) .ret))⟩
noncomputable def HE:Dx:=⟨false,1,7,[.tmp 2, .tmp 3],(.seq (rg false [oz 1 (.box 93 70 (.t 0)),oz 2 (.mv (.k (.s []))),oz 3 (.mv (.k (.b false)))]) (.seq (rg false [oz 4 (.fa 1 (.t 1)),oz 5 (.ld true 32 (.t 4)),oz 6 (.call Ig [(.t 5)]),oz 2 (.mv (.t 6)),oz 3 (.mv (.k (.b true)))]) .ret))⟩
noncomputable def HD:Dx:=⟨false,1,6,[.cell true 70 2],(.seq (rg false [oz 1 (.box 93 70 (.t 0)),oz 2 (.alloc 93 Ae.zc)]) (.seq (rg false [oz 3 (.bld (A2 32 T.u8).zc []),oz 4 (.fa 1 (.t 1)),on (.st 32 (.t 4) (.t 3))]) (.seq (rg false [oz 5 (.ld true 70 (.t 1)),on (.st 70 (.t 2) (.t 5))]) .ret)))⟩
noncomputable def HG:Dx:=⟨false,1,10,[.tmp 2, .tmp 3],(.seq (rg false [oz 1 (.box 93 70 (.t 0)),oz 2 (.mv (.k (.s []))),oz 3 (.mv (.k (.b false)))]) (.seq (rg true [oz 4 (.fa 34 (.t 1)),oz 5 (.ld true 18 (.t 4)),oz 6 (.call En [(.t 5)]),oz 7 (.fa 34 (.t 1)),oz 8 (.ld true 18 (.t 7)),oz 9 (.call CI [(.t 8)]),oz 2 (.mv (.t 6)),oz 3 (.mv (.t 9))]) .ret))⟩
noncomputable def HF:Dx:=⟨false,1,6,[.cell true 70 2],(.seq (rg false [oz 1 (.box 93 70 (.t 0)),oz 2 (.alloc 93 Ae.zc)]) (.seq (rg false [oz 3 (.bld Aq.zc []),oz 4 (.fa 34 (.t 1)),on (.st 18 (.t 4) (.t 3))]) (.seq (rg false [oz 5 (.ld true 70 (.t 1)),on (.st 70 (.t 2) (.t 5))]) .ret)))⟩
noncomputable def G4:Dx:=⟨false,1,10,[.tmp 2, .tmp 3],(.seq (rg false [oz 1 (.box 93 70 (.t 0)),oz 2 (.mv (.k (.s []))),oz 3 (.mv (.k (.b false)))]) (.seq (rg true [oz 4 (.fa 52 (.t 1)),oz 5 (.ld true 18 (.t 4)),oz 6 (.call GZ [(.t 5)]),oz 7 (.fa 52 (.t 1)),oz 8 (.ld true 18 (.t 7)),oz 9 (.call Ej [(.t 8)]),oz 2 (.mv (.t 6)),oz 3 (.mv (.t 9))]) .ret))⟩
noncomputable def LA:Dx:=⟨false,1,15,[.tmp 2],(.seq (rg false [oz 1 (.box 91 18 (.t 0)),oz 2 (.mv (.k (.s [])))]) (.seq (.seq (rg false [oz 3 (.ld true 18 (.t 1)),oz 4 (.call Ej [(.t 3)]),oz 5 (.un .not (.t 4))]) (.cond (.t 5) (.seq (rg false [oz 2 (.mv (.k (.s [])))]) .ret) .skip)) (.seq (rg true [oz 6 (.fa 0 (.t 1)),oz 7 (.ld true 17 (.t 6)),oz 8 (.call EM [(.t 7)]),oz 9 (.bin .add (.t 8) (.k (.s [47]))),oz 10 (.fa 17 (.t 1)),oz 11 (.ld false 1 (.t 10)),oz 12 (.cvi .u64 (.t 11)),oz 13 (.call CV [(.t 12)]),oz 14 (.bin .add (.t 9) (.t 13)),oz 2 (.mv (.t 14))]) .ret)))⟩
noncomputable def G3:Dx:=⟨false,1,6,[.cell true 70 2],(.seq (rg false [oz 1 (.box 93 70 (.t 0)),oz 2 (.alloc 93 Ae.zc)]) (.seq (rg false [oz 3 (.bld Ah.zc []),oz 4 (.fa 52 (.t 1)),on (.st 18 (.t 4) (.t 3))]) (.seq (rg false [oz 5 (.ld true 70 (.t 1)),on (.st 70 (.t 2) (.t 5))]) .ret)))⟩
noncomputable def I3:Dx:=⟨true,3,19,[.tmp 4, .tmp 5],(.seq (rg false [oz 3 (.box 93 70 (.t 0)),oz 4 (.mv (.k (.s []))),oz 5 (.mv (.k (.b false)))]) (.seq (rg true [oz 6 (.fa 33 (.t 3)),oz 7 (.ld false 1 (.t 6)),oz 8 (.call CV [(.t 7)]),oz 9 (.fa 33 (.t 3)),oz 10 (.ld false 1 (.t 9)),oz 11 (.ld false 1 (.t 1)),oz 12 (.bin .geq (.t 10) (.t 11)),oz 13 (.mv (.t 12)),⟨some 14,some (13,true), .fa 33 (.t 3)⟩,⟨some 15,some (13,true), .ld false 1 (.t 14)⟩,⟨some 16,some (13,true), .ld false 1 (.t 2)⟩,⟨some 17,some (13,true), .bin .leq (.t 15) (.t 16)⟩,oz 18 (.pick (.t 13) (.t 17) (.k (.b false))),oz 4 (.mv (.t 8)),oz 5 (.mv (.t 18))]) .ret))⟩
noncomputable def G2:Dx:=⟨false,1,5,[.cell true 70 2],(.seq (rg false [oz 1 (.box 93 70 (.t 0)),oz 2 (.alloc 93 Ae.zc)]) (.seq (rg false [oz 3 (.fa 33 (.t 1)),on (.st 1 (.t 3) (.k (.i .u64 0)))]) (.seq (rg false [oz 4 (.ld true 70 (.t 1)),on (.st 70 (.t 2) (.t 4))]) .ret)))⟩
noncomputable def I2:Dx:=⟨false,1,4,[.tmp 2, .tmp 3],(.seq (rg false [oz 1 (.box 93 70 (.t 0)),oz 2 (.mv (.k (.s []))),oz 3 (.mv (.k (.b false)))]) (.seq (rg false [oz 2 (.mv (.k (.s [116,114,117,101]))),oz 3 (.mv (.k (.b true)))]) .ret))⟩
noncomputable def I1:Dx:=⟨false,1,4,[.cell true 70 2],(.seq (rg false [oz 1 (.box 93 70 (.t 0)),oz 2 (.alloc 93 Ae.zc)]) (.seq (rg false [oz 3 (.ld true 70 (.t 1)),on (.st 70 (.t 2) (.t 3))]) .ret))⟩
noncomputable def R9:AC:=(.seq (rg false [oz 8 (.bin .lss (.t 7) (.k (.i .i64 8)))]) (.seq (.cond (.t 8) .skip (.exit 0)) (.seq (.blk 1 (.seq (rg false [oz 9 (.mv (.t 7)),oz 4 (.mv (.t 9))]) (.seq (rg false [oz 11 (.mv (.t 4)),oz 12 (.bin .mul (.k (.i .i64 2)) (.t 11)),oz 13 (.mv (.t 4)),oz 14 (.bin .mul (.k (.i .i64 2)) (.t 13)),oz 15 (.bin .add (.t 14) (.k (.i .i64 2))),oz 16 (.sla 16 1 (.t 1) (some (.t 12)) (some (.t 15))),oz 17 (.call EC [(.t 16)]),oz 10 (.mv (.t 17)),oz 18 (.ext (.t 10) 0),oz 19 (.ext (.t 10) 1),oz 5 (.mv (.t 18)),oz 6 (.mv (.t 19))]) (rg false [oz 20 (.mv (.t 4)),oz 21 (.mv (.t 5)),oz 22 (.cvi .u16 (.t 21)),oz 23 (.iaa 8 1 (.t 3) (.t 20)),on (.st 1 (.t 23) (.t 22))])))) (rg false [oz 24 (.bin .add (.t 7) (.k (.i .i64 1))),oz 7 (.mv (.t 24))]))))
noncomputable def I7:Dx:=⟨false,1,26,[.cell true 8 2],(.seq (rg false [oz 1 (.box 23 16 (.t 0)),oz 2 (.alloc 229 (A2 8 T.u16).zc)]) (.seq (rg false [oz 3 (.alloc 229 (A2 8 T.u16).zc)]) (.seq (.seq (rg false [oz 7 (.mv (.k (.i .i64 0)))]) (.blk 0 (.loop [1,2,3,7] R9))) (.seq (rg false [oz 25 (.ld true 8 (.t 3)),on (.st 8 (.t 2) (.t 25))]) .ret))))⟩
noncomputable def Qv:AC:=(.seq (rg false [oz 9 (.bin .lss (.t 8) (.k (.i .i64 8)))]) (.seq (.cond (.t 9) .skip (.exit 0)) (.seq (.blk 1 (.seq (rg false [oz 10 (.mv (.t 8)),oz 11 (.ixa 8 1 false (.t 7) (.t 8)),oz 5 (.mv (.t 10)),oz 6 (.mv (.t 11))]) (.seq (.seq (rg false [oz 12 (.mv (.t 6)),oz 13 (.bin .neq (.t 12) (.k (.i .u16 0)))]) (.cond (.t 13) (.seq (rg false [oz 4 (.mv (.k (.i .i64 0)))]) (.exit 1)) .skip)) (.seq (rg false [oz 14 (.mv (.t 4)),oz 15 (.bin .add (.t 14) (.k (.i .i64 1))),oz 4 (.mv (.t 15))]) (.seq (rg false [oz 16 (.mv (.t 4)),oz 17 (.mv (.t 3)),oz 18 (.bin .gtr (.t 16) (.t 17))]) (.cond (.t 18) (rg false [oz 19 (.mv (.t 5)),oz 20 (.bin .add (.t 19) (.k (.i .i64 1))),oz 21 (.mv (.t 4)),oz 22 (.bin .sub (.t 20) (.t 21)),oz 23 (.mv (.t 4)),oz 2 (.mv (.t 22)),oz 3 (.mv (.t 23))]) .skip)))))) (rg false [oz 24 (.bin .add (.t 8) (.k (.i .i64 1))),oz 8 (.mv (.t 24))]))))
noncomputable def HH:Dx:=⟨false,1,27,[.tmp 2, .tmp 3],(.seq (rg false [oz 1 (.box 229 8 (.t 0)),oz 2 (.mv (.k (.i .i64 0))),oz 3 (.mv (.k (.i .i64 0)))]) (.seq (rg false [oz 4 (.mv (.k (.i .i64 0)))]) (.seq (.seq (rg false [oz 7 (.ld true 8 (.t 1)),oz 8 (.mv (.k (.i .i64 0)))]) (.blk 0 (.loop [2,3,4,7,8] Qv))) (.seq (rg false [oz 25 (.mv (.t 2)),oz 26 (.mv (.t 3)),oz 2 (.mv (.t 25)),oz 3 (.mv (.t 26))]) .ret))))⟩
noncomputable def W1:AC:=(.seq (rg false [oz 9 (.bin .lss (.t 8) (.t 7))]) (.seq (.cond (.t 9) .skip (.exit 0)) (.seq (.blk 1 (.seq (rg false [oz 10 (.ias 1 (.t 6) (.t 8)),oz 11 (.ld false 1 (.t 10)),oz 5 (.mv (.t 11))]) (rg false [oz 12 (.mv (.t 3)),oz 13 (.mv (.t 5)),oz 14 (.call Fw [(.t 13)]),oz 15 (.bll 1 (List.replicate 1 A5.zc) [(0,(.t 14))]),oz 16 (.app 9 1 16 (.t 12) (.t 15)),oz 3 (.mv (.t 16))]))) (rg false [oz 17 (.bin .add (.t 8) (.k (.i .i64 1))),oz 8 (.mv (.t 17))]))))
noncomputable def L9:Dx:=⟨false,1,20,[.tmp 2],(.seq (rg false [oz 2 (.mv (.k (.s [])))]) (.seq (rg false [oz 3 (.mv (.k (.nils)))]) (.seq (.seq (rg false [oz 6 (.mv (.t 0)),oz 7 (.len (.t 6)),oz 8 (.mv (.k (.i .i64 0)))]) (.blk 0 (.loop [3,6,7,8] W1))) (.seq (rg false [oz 18 (.mv (.t 3)),oz 19 (.call DW [(.t 18),(.k (.s [58]))]),oz 2 (.mv (.t 19))]) .ret))))⟩
noncomputable def DF:Dx:=⟨false,1,15,[.tmp 2],(.seq (rg false [oz 2 (.mv (.k (.s [])))]) (.seq (.seq (rg false [oz 3 (.mv (.t 0)),oz 4 (.bin .lss (.t 3) (.k (.i .i64 10)))]) (.cond (.t 4) (.seq (rg false [oz 5 (.mv (.t 0)),oz 6 (.mv (.t 0)),oz 7 (.bin .add (.t 6) (.k (.i .i64 1))),oz 8 (.sls (.k (.s [48,49,50,51,52,53,54,55,56,57,97,98,99,100,101,102,103,104,105,106,107,108,109,110,111,112,113,114,115,116,117,118,119,120,121,122])) (some (.t 5)) (some (.t 7))),oz 2 (.mv (.t 8))]) .ret) .skip)) (.seq (rg false [oz 9 (.mv (.t 0)),oz 10 (.bin .mul (.t 9) (.k (.i .i64 2))),oz 11 (.mv (.t 0)),oz 12 (.bin .mul (.t 11) (.k (.i .i64 2))),oz 13 (.bin .add (.t 12) (.k (.i .i64 2))),oz 14 (.sls (.k (.s E5)) (some (.t 10)) (some (.t 13))),oz 2 (.mv (.t 14))]) .ret)))⟩
noncomputable def CW:Dx:=⟨false,1,15,[.tmp 2],(.seq (rg false [oz 2 (.mv (.k (.i .i64 0)))]) (.seq (rg false [oz 4 (.mv (.t 0)),oz 5 (.call D5 [(.t 4)]),oz 6 (.call BG [(.t 5)]),oz 3 (.mv (.t 6))]) (.seq (rg false [oz 7 (.mv (.t 3)),oz 8 (.mv (.t 0)),oz 9 (.mv (.t 3)),oz 10 (.iaa 20 1 (.g 2) (.t 9)),oz 11 (.ld false 1 (.t 10)),oz 12 (.bin .geq (.t 8) (.t 11)),oz 13 (.call BH [(.t 12)]),oz 14 (.bin .add (.t 7) (.t 13)),oz 2 (.mv (.t 14))]) .ret)))⟩
noncomputable def HS:AC:=(.seq (.seq (rg false [oz 19 (.mv (.t 4)),oz 20 (.bin .geq (.t 19) (.k (.i .i64 8)))]) (.cond (.t 20) .skip (.exit 0))) (.blk 1 (.seq (rg false [oz 21 (.mv (.t 1)),oz 22 (.bin .rem (.t 21) (.k (.i .u64 100000000))),oz 23 (.cvi .u32 (.t 22)),oz 5 (.mv (.t 23))]) (.seq (rg false [oz 24 (.mv (.t 1)),oz 25 (.bin .quo (.t 24) (.k (.i .u64 100000000))),oz 1 (.mv (.t 25))]) (.seq (rg false [oz 26 (.mv (.t 5)),oz 27 (.bin .quo (.t 26) (.k (.i .u32 10000))),oz 28 (.mv (.t 5)),oz 29 (.bin .rem (.t 28) (.k (.i .u32 10000))),oz 6 (.mv (.t 27)),oz 7 (.mv (.t 29))]) (.seq (rg false [oz 30 (.mv (.t 7)),oz 31 (.bin .quo (.t 30) (.k (.i .u32 100))),oz 32 (.bin .mul (.t 31) (.k (.i .u32 2))),oz 33 (.mv (.t 7)),oz 34 (.bin .rem (.t 33) (.k (.i .u32 100))),oz 35 (.bin .mul (.t 34) (.k (.i .u32 2))),oz 8 (.mv (.t 32)),oz 9 (.mv (.t 35))]) (.seq (rg false [oz 36 (.mv (.t 6)),oz 37 (.bin .quo (.t 36) (.k (.i .u32 100))),oz 38 (.bin .mul (.t 37) (.k (.i .u32 2))),oz 39 (.mv (.t 6)),oz 40 (.bin .rem (.t 39) (.k (.i .u32 100))),oz 41 (.bin .mul (.t 40) (.k (.i .u32 2))),oz 10 (.mv (.t 38)),oz 11 (.mv (.t 41))]) (.seq (.regd [oz 42 (.mv (.t 0)),oz 43 (.mv (.t 4)),oz 44 (.bin .sub (.t 43) (.k (.i .i64 1))),oz 45 (.mv (.t 0)),oz 46 (.mv (.t 4)),oz 47 (.bin .sub (.t 46) (.k (.i .i64 2))),oz 48 (.mv (.t 9)),oz 49 (.bin .add (.t 48) (.k (.i .u32 1))),oz 50 (.ixs (.k (.s E5)) (.t 49)),oz 51 (.mv (.t 9)),oz 52 (.ixs (.k (.s E5)) (.t 51)),oz 53 (.ias 1 (.t 42) (.t 44)),on (.st 1 (.t 53) (.t 50)),oz 54 (.ias 1 (.t 45) (.t 47)),on (.st 1 (.t 54) (.t 52))] [some (0,0),some (0,0),some (0,0),some (0,1),some (0,1),some (0,1),some (0,0),some (0,0),some (0,0),some (0,1),some (0,1),some (0,0),none,some (1,1),none])
  (.seq (.regd [oz 55 (.mv (.t 0)),oz 56 (.mv (.t 4)),oz 57 (.bin .sub (.t 56) (.k (.i .i64 3))),oz 58 (.mv (.t 0)),oz 59 (.mv (.t 4)),oz 60 (.bin .sub (.t 59) (.k (.i .i64 4))),oz 61 (.mv (.t 8)),oz 62 (.bin .add (.t 61) (.k (.i .u32 1))),oz 63 (.ixs (.k (.s E5)) (.t 62)),oz 64 (.mv (.t 8)),oz 65 (.ixs (.k (.s E5)) (.t 64)),oz 66 (.ias 1 (.t 55) (.t 57)),on (.st 1 (.t 66) (.t 63)),oz 67 (.ias 1 (.t 58) (.t 60)),on (.st 1 (.t 67) (.t 65))] [some (0,0),some (0,0),some (0,0),some (0,1),some (0,1),some (0,1),some (0,0),some (0,0),some (0,0),some (0,1),some (0,1),some (0,0),none,some (1,1),none]) (.seq (.regd [oz 68 (.mv (.t 0)),oz 69 (.mv (.t 4)),oz 70 (.bin .sub (.t 69) (.k (.i .i64 5))),oz 71 (.mv (.t 0)),oz 72 (.mv (.t 4)),oz 73 (.bin .sub (.t 72) (.k (.i .i64 6))),oz 74 (.mv (.t 11)),oz 75 (.bin .add (.t 74) (.k (.i .u32 1))),oz 76 (.ixs (.k (.s E5)) (.t 75)),oz 77 (.mv (.t 11)),oz 78 (.ixs (.k (.s E5)) (.t 77)),oz 79 (.ias 1 (.t 68) (.t 70)),on (.st 1 (.t 79) (.t 76)),oz 80 (.ias 1 (.t 71) (.t 73)),on (.st 1 (.t 80) (.t 78))] [some (0,0),some (0,0),some (0,0),some (0,1),some (0,1),some (0,1),some (0,0),some (0,0),some (0,0),some (0,1),some (0,1),some (0,0),none,some (1,1),none]) (.seq (.regd [oz 81 (.mv (.t 0)),oz 82 (.mv (.t 4)),oz 83 (.bin .sub (.t 82) (.k (.i .i64 7))),oz 84 (.mv (.t 0)),oz 85 (.mv (.t 4)),oz 86 (.bin .sub (.t 85) (.k (.i .i64 8))),oz 87 (.mv (.t 10)),oz 88 (.bin .add (.t 87) (.k (.i .u32 1))),oz 89 (.ixs (.k (.s E5)) (.t 88)),oz 90 (.mv (.t 10)),oz 91 (.ixs (.k (.s E5)) (.t 90)),oz 92 (.ias 1 (.t 81) (.t 83)),on (.st 1 (.t 92) (.t 89)),oz 93 (.ias 1 (.t 84) (.t 86)),on (.st 1 (.t 93) (.t 91))] [some (0,0),some (0,0),some (0,0),some (0,1),some (0,1),some (0,1),some (0,0),some (0,0),some (0,0),some (0,1),some (0,1),some (0,0),none,some (1,1),none])
  (rg false [oz 94 (.mv (.t 4)),oz 95 (.bin .sub (.t 94) (.k (.i .i64 8))),oz 4 (.mv (.t 95))]))))))))))))
noncomputable def D3:Dx:=⟨true,2,167,[],(.seq (rg false [oz 17 (.mv (.t 0)),oz 18 (.len (.t 17)),oz 4 (.mv (.t 18))]) (.seq (.blk 0 (.loop [0,1,4] HS)) (.seq (rg false [oz 96 (.mv (.t 1)),oz 97 (.cvi .u32 (.t 96)),oz 12 (.mv (.t 97))]) (.seq (.seq (rg false [oz 98 (.mv (.t 4)),oz 99 (.bin .geq (.t 98) (.k (.i .i64 4)))]) (.cond (.t 99) (.seq (rg false [oz 100 (.mv (.t 12)),oz 101 (.bin .rem (.t 100) (.k (.i .u32 10000))),oz 13 (.mv (.t 101))]) (.seq (rg false [oz 102 (.mv (.t 12)),oz 103 (.bin .quo (.t 102) (.k (.i .u32 10000))),oz 12 (.mv (.t 103))]) (.seq (rg false [oz 104 (.mv (.t 13)),oz 105 (.bin .quo (.t 104) (.k (.i .u32 100))),oz 106 (.bin .mul (.t 105) (.k (.i .u32 2))),oz 107 (.mv (.t 13)),oz 108 (.bin .rem (.t 107) (.k (.i .u32 100))),oz 109 (.bin .mul (.t 108) (.k (.i .u32 2))),oz 14 (.mv (.t 106)),oz 15 (.mv (.t 109))]) (.seq (.regd [oz 110 (.mv (.t 0)),oz 111 (.mv (.t 4)),oz 112 (.bin .sub (.t 111) (.k (.i .i64 1))),oz 113 (.mv (.t 0)),oz 114 (.mv (.t 4)),oz 115 (.bin .sub (.t 114) (.k (.i .i64 2))),oz 116 (.mv (.t 15)),oz 117 (.bin .add (.t 116) (.k (.i .u32 1))),oz 118 (.ixs (.k (.s E5)) (.t 117)),oz 119 (.mv (.t 15)),oz 120 (.ixs (.k (.s E5)) (.t 119)),oz 121 (.ias 1 (.t 110) (.t 112)),on (.st 1 (.t 121) (.t 118)),oz 122 (.ias 1 (.t 113) (.t 115)),on (.st 1 (.t 122) (.t 120))] [some (0,0),some (0,0),some (0,0),some (0,1),some (0,1),some (0,1),some (0,0),some (0,0),some (0,0),some (0,1),some (0,1),some (0,0),none,some (1,1),none]) (.seq (.regd [oz 123 (.mv (.t 0)),oz 124 (.mv (.t 4)),oz 125 (.bin .sub (.t 124) (.k (.i .i64 3))),oz 126 (.mv (.t 0)),oz 127 (.mv (.t 4)),oz 128 (.bin .sub (.t 127) (.k (.i .i64 4))),oz 129 (.mv (.t 14)),oz 130 (.bin .add (.t 129) (.k (.i .u32 1))),oz 131 (.ixs (.k (.s E5)) (.t 130)),oz 132 (.mv (.t 14)),oz 133 (.ixs (.k (.s E5)) (.t 132)),oz 134 (.ias 1 (.t 123) (.t 125)),on (.st 1 (.t 134) (.t 131)),oz 135 (.ias 1 (.t 126) (.t 128)),on (.st 1 (.t 135) (.t 133))] [some (0,0),some (0,0),some (0,0),some (0,1),some (0,1),some (0,1),some (0,0),some (0,0),some (0,0),some (0,1),some (0,1),some (0,0),none,some (1,1),none])
  (rg false [oz 136 (.mv (.t 4)),oz 137 (.bin .sub (.t 136) (.k (.i .i64 4))),oz 4 (.mv (.t 137))])))))) .skip)) (.seq (.seq (rg false [oz 138 (.mv (.t 4)),oz 139 (.bin .geq (.t 138) (.k (.i .i64 2)))]) (.cond (.t 139) (.seq (rg false [oz 140 (.mv (.t 12)),oz 141 (.bin .rem (.t 140) (.k (.i .u32 100))),oz 142 (.bin .mul (.t 141) (.k (.i .u32 2))),oz 16 (.mv (.t 142))]) (.seq (rg false [oz 143 (.mv (.t 12)),oz 144 (.bin .quo (.t 143) (.k (.i .u32 100))),oz 12 (.mv (.t 144))]) (.seq (.regd [oz 145 (.mv (.t 0)),oz 146 (.mv (.t 4)),oz 147 (.bin .sub (.t 146) (.k (.i .i64 1))),oz 148 (.mv (.t 0)),oz 149 (.mv (.t 4)),oz 150 (.bin .sub (.t 149) (.k (.i .i64 2))),oz 151 (.mv (.t 16)),oz 152 (.bin .add (.t 151) (.k (.i .u32 1))),oz 153 (.ixs (.k (.s E5)) (.t 152)),oz 154 (.mv (.t 16)),oz 155 (.ixs (.k (.s E5)) (.t 154)),oz 156 (.ias 1 (.t 145) (.t 147)),on (.st 1 (.t 156) (.t 153)),oz 157 (.ias 1 (.t 148) (.t 150)),on (.st 1 (.t 157) (.t 155))] [some (0,0),some (0,0),some (0,0),some (0,1),some (0,1),some (0,1),some (0,0),some (0,0),some (0,0),some (0,1),some (0,1),some (0,0),none,some (1,1),none]) (rg false [oz 158 (.mv (.t 4)),oz 159 (.bin .sub (.t 158) (.k (.i .i64 2))),oz 4 (.mv (.t 159))])))) .skip)) (.seq (rg false [oz 160 (.mv (.t 4)),oz 161 (.bin .gtr (.t 160) (.k (.i .i64 0)))]) (.cond (.t 161) (rg false [oz 162 (.mv (.t 0)),oz 163 (.mv (.t 12)),oz 164 (.bin .add (.k (.i .u32 48)) (.t 163)),oz 165 (.cvi .u8 (.t 164)),oz 166 (.ias 1 (.t 162) (.k (.i .i64 0))),on (.st 1 (.t 166) (.t 165))])
  .skip)))))))⟩
noncomputable def DE:Dx:=⟨false,1,17,[.tmp 2],(.seq (rg false [oz 2 (.mv (.k (.b false)))]) (.seq (.blk 0 (.seq (rg false [oz 4 (.mv (.t 0)),oz 5 (.bin .leq (.k (.i .i32 0)) (.t 4)),oz 6 (.mv (.t 5)),⟨some 7,some (6,true), .mv (.t 0)⟩,⟨some 8,some (6,true), .bin .lss (.t 7) (.k (.i .i32 55296))⟩,oz 9 (.pick (.t 6) (.t 8) (.k (.b false))),oz 3 (.mv (.t 9))]) (.cond (.t 3) (.seq (rg false [oz 2 (.mv (.k (.b true)))]) .ret) (.seq (rg false [oz 11 (.mv (.t 0)),oz 12 (.bin .lss (.k (.i .i32 57343)) (.t 11)),oz 13 (.mv (.t 12)),⟨some 14,some (13,true), .mv (.t 0)⟩,⟨some 15,some (13,true), .bin .leq (.t 14) (.k (.i .i32 1114111))⟩,oz 16 (.pick (.t 13) (.t 15) (.k (.b false))),oz 10 (.mv (.t 16))]) (.cond (.t 10) (.seq (rg false [oz 2 (.mv (.k (.b true)))]) .ret) .skip))))) (.seq (rg false [oz 2 (.mv (.k (.b false)))]) .ret)))⟩
noncomputable def GG:Dx:=⟨false,1,6,[.tmp 2],(.seq (rg false [oz 2 (.mv (.k (.i .i64 0)))]) (.seq (rg false [oz 3 (.mv (.t 0)),oz 4 (.bin .add (.t 3) (.k (.i .i64 16))),oz 5 (.bin .quo (.t 4) (.k (.i .i64 8))),oz 2 (.mv (.t 5))]) .ret))⟩
noncomputable def R8:AC:=(.seq (rg false [oz 13 (.bin .lss (.t 12) (.t 11))]) (.seq (.cond (.t 13) .skip (.exit 0)) (.seq (.blk 1 (.seq (rg false [oz 14 (.ias 1 (.t 10) (.t 12)),oz 15 (.ld false 1 (.t 14)),oz 6 (.mv (.t 15))]) (rg false [oz 16 (.mv (.t 4)),oz 17 (.bin .shl (.t 16) (.k (.i .u64 8))),oz 18 (.mv (.t 6)),oz 19 (.cvi .u64 (.t 18)),oz 20 (.bin .or (.t 17) (.t 19)),oz 4 (.mv (.t 20))]))) (rg false [oz 21 (.bin .add (.t 12) (.k (.i .i64 1))),oz 12 (.mv (.t 21))]))))
noncomputable def I5:Dx:=⟨false,1,23,[.tmp 2, .tmp 3],(.seq (rg false [oz 2 (.mv (.k (.i .u64 0))),oz 3 (.mv (.k (.i .i64 0)))]) (.seq (.seq (rg false [oz 7 (.mv (.t 0)),oz 8 (.call EB [(.t 7)]),oz 9 (.un .not (.t 8))]) (.cond (.t 9) (.seq (rg false [oz 2 (.mv (.k (.i .u64 0))),oz 3 (.mv (.k (.i .i64 1)))]) .ret) .skip)) (.seq (rg false [oz 4 (.mv (.k (.i .u64 0)))]) (.seq (.seq (rg false [oz 10 (.mv (.t 0)),oz 11 (.len (.t 10)),oz 12 (.mv (.k (.i .i64 0)))]) (.blk 0 (.loop [4,10,11,12] R8))) (.seq (rg false [oz 22 (.mv (.t 4)),oz 2 (.mv (.t 22)),oz 3 (.mv (.k (.i .i64 0)))]) .ret)))))⟩
noncomputable def SM:AC:=(.blk 1 (.seq (rg false [oz 4 (.mv (.t 0)),oz 5 (.bin .and (.t 4) (.k (.i .u16 15))),oz 6 (.ixs (.k (.s [48,49,50,51,52,53,54,55,56,57,97,98,99,100,101,102])) (.t 5)),oz 7 (.cvc (.t 6)),oz 8 (.mv (.t 3)),oz 9 (.bin .add (.t 7) (.t 8)),oz 3 (.mv (.t 9))]) (.seq (rg false [oz 10 (.mv (.t 0)),oz 11 (.bin .shr (.t 10) (.k (.i .u64 4))),oz 0 (.mv (.t 11))]) (.seq (rg false [oz 12 (.mv (.t 0)),oz 13 (.bin .eql (.t 12) (.k (.i .u16 0)))]) (.cond (.t 13) (.seq (rg false [oz 14 (.mv (.t 3)),oz 2 (.mv (.t 14))]) .ret) .skip)))))
noncomputable def Jl:Dx:=⟨false,1,15,[.tmp 2],(.seq (rg false [oz 2 (.mv (.k (.s [])))]) (.seq (rg false [oz 3 (.mv (.k (.s [])))]) (.blk 0 (.loop [0,3] SM))))⟩
noncomputable def CX:Dx:=⟨false,1,6,[.tmp 2],(.seq (rg false [oz 2 (.mv (.k (.i .i64 0)))]) (.seq (rg false [oz 3 (.mv (.t 0)),oz 4 (.bin .mul (.t 3) (.k (.i .i64 78913))),oz 5 (.bin .shr (.t 4) (.k (.i .u64 18))),oz 2 (.mv (.t 5))]) .ret))⟩
noncomputable def G0:Dx:=⟨false,1,25,[.tmp 2],(.seq (rg false [oz 2 (.mv (.k (.i .i64 0)))]) (.seq (.seq (rg false [oz 3 (.mv (.t 0)),oz 4 (.bin .geq (.t 3) (.k (.i .u64 4294967296)))]) (.cond (.t 4) (.seq (rg false [oz 5 (.mv (.t 0)),oz 6 (.bin .shr (.t 5) (.k (.i .u64 32))),oz 0 (.mv (.t 6))]) (rg false [oz 2 (.mv (.k (.i .i64 32)))])) .skip)) (.seq (.seq (rg false [oz 7 (.mv (.t 0)),oz 8 (.bin .geq (.t 7) (.k (.i .u64 65536)))]) (.cond (.t 8) (.seq (rg false [oz 9 (.mv (.t 0)),oz 10 (.bin .shr (.t 9) (.k (.i .u64 16))),oz 0 (.mv (.t 10))]) (rg false [oz 11 (.mv (.t 2)),oz 12 (.bin .add (.t 11) (.k (.i .i64 16))),oz 2 (.mv (.t 12))])) .skip)) (.seq (.seq (rg false [oz 13 (.mv (.t 0)),oz 14 (.bin .geq (.t 13) (.k (.i .u64 256)))]) (.cond (.t 14) (.seq (rg false [oz 15 (.mv (.t 0)),oz 16 (.bin .shr (.t 15) (.k (.i .u64 8))),oz 0 (.mv (.t 16))]) (rg false [oz 17 (.mv (.t 2)),oz 18 (.bin .add (.t 17) (.k (.i .i64 8))),oz 2 (.mv (.t 18))])) .skip)) (.seq (rg false [oz 19 (.mv (.t 2)),oz 20 (.mv (.t 0)),oz 21 (.cvi .u8 (.t 20)),oz 22 (.ixs (.k (.s str_1)) (.t 21)),oz 23 (.cvi .i64 (.t 22)),oz 24 (.bin .add (.t 19) (.t 23)),oz 2 (.mv (.t 24))]) .ret)))))⟩
noncomputable def CY:Dx:=⟨false,1,4,[.tmp 2],(.seq (rg false [oz 2 (.mv (.k (.i .i64 0)))]) (.seq (.seq (rg false [oz 3 (.mv (.t 0))]) (.cond (.t 3) (.seq (rg false [oz 2 (.mv (.k (.i .i64 1)))]) .ret) .skip)) (.seq (rg false [oz 2 (.mv (.k (.i .i64 0)))]) .ret)))⟩
noncomputable def I4:Dx:=⟨false,1,11,[.tmp 2],(.seq (rg false [oz 2 (.mv (.k (.b false)))]) (.seq (rg false [oz 3 (.mv (.t 0)),oz 4 (.len (.t 3)),oz 5 (.bin .geq (.t 4) (.k (.i .i64 1))),oz 6 (.mv (.t 5)),⟨some 7,some (6,true), .mv (.t 0)⟩,⟨some 8,some (6,true), .len (.t 7)⟩,⟨some 9,some (6,true), .bin .leq (.t 8) (.k (.i .i64 8))⟩,oz 10 (.pick (.t 6) (.t 9) (.k (.b false))),oz 2 (.mv (.t 10))]) .ret))⟩
def oO:(Ar AR 17):=⟨[[],[112,114,105,118,97,116,101,95,107,101,121],[108,105,115,116,101,110,95,112,111,114,116],[102,119,109,97,114,107],[114,101,112,108,97,99,101,95,112,101,101,114,115],[112,117,98,108,105,99,95,107,101,121],[114,101,109,111,118,101],[117,112,100,97,116,101,95,111,110,108,121],[112,114,101,115,104,97,114,101,100,95,107,101,121],[101,110,100,112,111,105,110,116],[112,101,114,115,105,115,116,101,110,116,95,107,101,101,112,97,108,105,118,101,95,105,110,116,101,114,118,97,108],[114,101,112,108,97,99,101,95,97,108,108,111,119,101,100,95,105,112,115],[97,108,108,111,119,101,100,95,105,112],[112,114,111,116,111,99,111,108,95,118,101,114,115,105,111,110],[116,120,95,98,121,116,101,115],[114,120,95,98,121,116,101,115],[101,114,114,110,111]],rfl⟩
def gl_0:List AV:=oO.l.map AV.s
theorem gm_0:Bc gl_0=0:=qB AV.s (fun _=>rfl) _
theorem gr_0: ∀P H,(A2 17 A5).R P H gl_0 oO:=fun _ _=>AaC oO
def iY:(Ar UInt64 20):=⟨[1,10,100,1000,10000,100000,1000000,10000000,100000000,1000000000,10000000000,100000000000,1000000000000,10000000000000,100000000000000,1000000000000000,10000000000000000,100000000000000000,1000000000000000000,10000000000000000000],rfl⟩
def gl_2:List AV:=iY.l.map (fun(x:UInt64)=>AV.i .u64 x.toNat)
theorem gm_2:Bc gl_2=0:=qB (fun(x:UInt64)=>AV.i .u64 x.toNat) (fun _=>rfl) _
theorem gr_2: ∀P H,(A2 20 T.u64).R P H gl_2 iY:=fun _ _=>AaC iY
noncomputable def gll:List (Nat×List AV):=[(0,gl_0),(2,gl_2)]
noncomputable def fnl:List (Nat×Dx):=[(D6,G1),(GV,L6),(FU,Lz),(FW,L8),(DM,Jn),(FT,Ly),(Ia,N1),(DU,Hh),(GQ,L0),(DW,Iw),(GU,L5),(Gr,Kw),(Gq,Kv),(Fx,Jm),(Ds,Hf),(DX,Iz),(GD,N0),(GR,L1),(Ic,N3),(E9,Ix),(Ec,L4),(CC,Ff),(Ba,D2),(B4,E0),(EX,Ku),(Fv,Jk),(D7,HC),(CI,Hg),(Em,HA),(Gs,Kx),(FV,L3),(Id,N4),(Ie,N5),(Ib,N2),(EA,Iy),(En,HB),(Ig,N6),(CV,I6),(Bv,DN),(Cz,Fo),(Ej,K0),(Ha,LB),(Do,K2),(C5,E2),(Dw,Gc),(Fz,Jo),(Eo,JT),(EZ,Ky),(GT,L2),(B8,DO),(Fa,K1),(EM,LC),(CN,EO),(Bx,Ct),(IX,Pc),(Hc,LE),(Hd,LF),(Dv,Gb),(El,H9),(GE,LZ),(GF,Ma),(Fy,JV),(CA,JU),(Hy,N7),(GW,L7),(Gt,Kz),(B9,CL),(Hb,LD),(Er,HI),(Cy,Fm),(BL,Di),(Cu,Ef),(B7,CJ),(C7,HE),(C6,HD),(C9,HG),(C8,HF),(Cg,G4),(GZ,LA),(Cf,G3),(Bj,I3),(Bd,G2),(CU,I2),(CT,I1),(ED,I7),(Ep,HH),(EL,L9),(Cd,DF),(BF,CW),(BN,D3),(Cc,DE),(Ed,GG),(EC,I5),(Fw,Jl),(BG,CX),(D5,G0),(BH,CY),(EB,I4)]
def prl:List (Nat×(List AV→Av→Option (AV×Option Av))):=[(BV,Vt),(EY,NG),(Dh,Oo),(E8,(XZ 107 5)),(CH,QW)]
def itl:List Nat:=[1]
noncomputable def tb:CD:=⟨fun n=>look n fnl,fun n=>look n gll,fun n=>look n prl,itl⟩
theorem Rr:tb.prim D6=none∧tb.fns D6=some G1:=⟨rfl,rfl⟩
theorem eT:tb.prim GV=none∧tb.fns GV=some L6:=⟨rfl,rfl⟩
theorem eM:tb.prim FU=none∧tb.fns FU=some Lz:=⟨rfl,rfl⟩
theorem eV:tb.prim FW=none∧tb.fns FW=some L8:=⟨rfl,rfl⟩
theorem X1:tb.prim DM=none∧tb.fns DM=some Jn:=⟨rfl,rfl⟩
theorem eL:tb.prim FT=none∧tb.fns FT=some Ly:=⟨rfl,rfl⟩
theorem jG:tb.prim Ia=none∧tb.fns Ia=some N1:=⟨rfl,rfl⟩
theorem SH:tb.prim DU=none∧tb.fns DU=some Hh:=⟨rfl,rfl⟩
theorem eN:tb.prim GQ=none∧tb.fns GQ=some L0:=⟨rfl,rfl⟩
theorem VY:tb.prim DW=none∧tb.fns DW=some Iw:=⟨rfl,rfl⟩
theorem eS:tb.prim GU=none∧tb.fns GU=some L5:=⟨rfl,rfl⟩
theorem ZR:tb.prim Gr=none∧tb.fns Gr=some Kw:=⟨rfl,rfl⟩
theorem ZQ:tb.prim Gq=none∧tb.fns Gq=some Kv:=⟨rfl,rfl⟩
theorem X0:tb.prim Fx=none∧tb.fns Fx=some Jm:=⟨rfl,rfl⟩
theorem SF:tb.prim Ds=none∧tb.fns Ds=some Hf:=⟨rfl,rfl⟩
theorem Wb:tb.prim DX=none∧tb.fns DX=some Iz:=⟨rfl,rfl⟩
theorem jF:tb.prim GD=none∧tb.fns GD=some N0:=⟨rfl,rfl⟩
theorem eO:tb.prim GR=none∧tb.fns GR=some L1:=⟨rfl,rfl⟩
theorem jI:tb.prim Ic=none∧tb.fns Ic=some N3:=⟨rfl,rfl⟩
theorem VZ:tb.prim E9=none∧tb.fns E9=some Ix:=⟨rfl,rfl⟩
theorem eR:tb.prim Ec=none∧tb.fns Ec=some L4:=⟨rfl,rfl⟩
theorem LU:tb.prim CC=none∧tb.fns CC=some Ff:=⟨rfl,rfl⟩
theorem BQ:tb.prim Ba=none∧tb.fns Ba=some D2:=⟨rfl,rfl⟩
theorem Ez:tb.prim B4=none∧tb.fns B4=some E0:=⟨rfl,rfl⟩
theorem ZP:tb.prim EX=none∧tb.fns EX=some Ku:=⟨rfl,rfl⟩
theorem Xy:tb.prim Fv=none∧tb.fns Fv=some Jk:=⟨rfl,rfl⟩
theorem Up:tb.prim D7=none∧tb.fns D7=some HC:=⟨rfl,rfl⟩
theorem SG:tb.prim CI=none∧tb.fns CI=some Hg:=⟨rfl,rfl⟩
theorem Un:tb.prim Em=none∧tb.fns Em=some HA:=⟨rfl,rfl⟩
theorem ZS:tb.prim Gs=none∧tb.fns Gs=some Kx:=⟨rfl,rfl⟩
theorem eQ:tb.prim FV=none∧tb.fns FV=some L3:=⟨rfl,rfl⟩
theorem jJ:tb.prim Id=none∧tb.fns Id=some N4:=⟨rfl,rfl⟩
theorem jK:tb.prim Ie=none∧tb.fns Ie=some N5:=⟨rfl,rfl⟩
theorem jH:tb.prim Ib=none∧tb.fns Ib=some N2:=⟨rfl,rfl⟩
theorem Wa:tb.prim EA=none∧tb.fns EA=some Iy:=⟨rfl,rfl⟩
theorem Uo:tb.prim En=none∧tb.fns En=some HB:=⟨rfl,rfl⟩
theorem jL:tb.prim Ig=none∧tb.fns Ig=some N6:=⟨rfl,rfl⟩
theorem Wg:tb.prim CV=none∧tb.fns CV=some I6:=⟨rfl,rfl⟩
theorem Br:tb.prim Bv=none∧tb.fns Bv=some DN:=⟨rfl,rfl⟩
theorem Pw:tb.prim Cz=none∧tb.fns Cz=some Fo:=⟨rfl,rfl⟩
theorem ZV:tb.prim Ej=none∧tb.fns Ej=some K0:=⟨rfl,rfl⟩
theorem eY:tb.prim Ha=none∧tb.fns Ha=some LB:=⟨rfl,rfl⟩
theorem ZX:tb.prim Do=none∧tb.fns Do=some K2:=⟨rfl,rfl⟩
theorem NX:tb.prim C5=none∧tb.fns C5=some E2:=⟨rfl,rfl⟩
theorem Qt:tb.prim Dw=none∧tb.fns Dw=some Gc:=⟨rfl,rfl⟩
theorem X2:tb.prim Fz=none∧tb.fns Fz=some Jo:=⟨rfl,rfl⟩
theorem NK:tb.prim Eo=none∧tb.fns Eo=some JT:=⟨rfl,rfl⟩
theorem ZT:tb.prim EZ=none∧tb.fns EZ=some Ky:=⟨rfl,rfl⟩
theorem eP:tb.prim GT=none∧tb.fns GT=some L2:=⟨rfl,rfl⟩
theorem FA:tb.prim B8=none∧tb.fns B8=some DO:=⟨rfl,rfl⟩
theorem ZW:tb.prim Fa=none∧tb.fns Fa=some K1:=⟨rfl,rfl⟩
theorem eZ:tb.prim EM=none∧tb.fns EM=some LC:=⟨rfl,rfl⟩
theorem O8:tb.prim CN=none∧tb.fns CN=some EO:=⟨rfl,rfl⟩
theorem Iu:tb.prim Bx=none∧tb.fns Bx=some Ct:=⟨rfl,rfl⟩
theorem oU:tb.prim IX=none∧tb.fns IX=some Pc:=⟨rfl,rfl⟩
theorem fB:tb.prim Hc=none∧tb.fns Hc=some LE:=⟨rfl,rfl⟩
theorem fC:tb.prim Hd=none∧tb.fns Hd=some LF:=⟨rfl,rfl⟩
theorem Qs:tb.prim Dv=none∧tb.fns Dv=some Gb:=⟨rfl,rfl⟩
theorem Um:tb.prim El=none∧tb.fns El=some H9:=⟨rfl,rfl⟩
theorem PF:tb.prim GE=none∧tb.fns GE=some LZ:=⟨rfl,rfl⟩
theorem PG:tb.prim GF=none∧tb.fns GF=some Ma:=⟨rfl,rfl⟩
theorem NL:tb.prim Fy=none∧tb.fns Fy=some JV:=⟨rfl,rfl⟩
theorem C2:tb.prim CA=none∧tb.fns CA=some JU:=⟨rfl,rfl⟩
theorem Rt:tb.prim Hy=none∧tb.fns Hy=some N7:=⟨rfl,rfl⟩
theorem eU:tb.prim GW=none∧tb.fns GW=some L7:=⟨rfl,rfl⟩
theorem ZU:tb.prim Gt=none∧tb.fns Gt=some Kz:=⟨rfl,rfl⟩
theorem JA:tb.prim B9=none∧tb.fns B9=some CL:=⟨rfl,rfl⟩
theorem fA:tb.prim Hb=none∧tb.fns Hb=some LD:=⟨rfl,rfl⟩
theorem Uv:tb.prim Er=none∧tb.fns Er=some HI:=⟨rfl,rfl⟩
theorem Pv:tb.prim Cy=none∧tb.fns Cy=some Fm:=⟨rfl,rfl⟩
theorem Ko:tb.prim BL=none∧tb.fns BL=some Di:=⟨rfl,rfl⟩
theorem Nn:tb.prim Cu=none∧tb.fns Cu=some Ef:=⟨rfl,rfl⟩
theorem J9:tb.prim B7=none∧tb.fns B7=some CJ:=⟨rfl,rfl⟩
theorem Ur:tb.prim C7=none∧tb.fns C7=some HE:=⟨rfl,rfl⟩
theorem Uq:tb.prim C6=none∧tb.fns C6=some HD:=⟨rfl,rfl⟩
theorem Ut:tb.prim C9=none∧tb.fns C9=some HG:=⟨rfl,rfl⟩
theorem Us:tb.prim C8=none∧tb.fns C8=some HF:=⟨rfl,rfl⟩
theorem Rw:tb.prim Cg=none∧tb.fns Cg=some G4:=⟨rfl,rfl⟩
theorem eX:tb.prim GZ=none∧tb.fns GZ=some LA:=⟨rfl,rfl⟩
theorem Rv:tb.prim Cf=none∧tb.fns Cf=some G3:=⟨rfl,rfl⟩
theorem Lu:tb.prim Bj=none∧tb.fns Bj=some I3:=⟨rfl,rfl⟩
theorem Ru:tb.prim Bd=none∧tb.fns Bd=some G2:=⟨rfl,rfl⟩
theorem Wd:tb.prim CU=none∧tb.fns CU=some I2:=⟨rfl,rfl⟩
theorem Wc:tb.prim CT=none∧tb.fns CT=some I1:=⟨rfl,rfl⟩
theorem Wh:tb.prim ED=none∧tb.fns ED=some I7:=⟨rfl,rfl⟩
theorem Uu:tb.prim Ep=none∧tb.fns Ep=some HH:=⟨rfl,rfl⟩
theorem eW:tb.prim EL=none∧tb.fns EL=some L9:=⟨rfl,rfl⟩
theorem LV:tb.prim Cd=none∧tb.fns Cd=some DF:=⟨rfl,rfl⟩
theorem JQ:tb.prim BF=none∧tb.fns BF=some CW:=⟨rfl,rfl⟩
theorem II:tb.prim BN=none∧tb.fns BN=some D3:=⟨rfl,rfl⟩
theorem LT:tb.prim Cc=none∧tb.fns Cc=some DE:=⟨rfl,rfl⟩
theorem Wf:tb.prim EC=none∧tb.fns EC=some I5:=⟨rfl,rfl⟩
theorem Xz:tb.prim Fw=none∧tb.fns Fw=some Jl:=⟨rfl,rfl⟩
theorem JR:tb.prim BG=none∧tb.fns BG=some CX:=⟨rfl,rfl⟩
theorem Rq:tb.prim D5=none∧tb.fns D5=some G0:=⟨rfl,rfl⟩
theorem JS:tb.prim BH=none∧tb.fns BH=some CY:=⟨rfl,rfl⟩
theorem We:tb.prim EB=none∧tb.fns EB=some I4:=⟨rfl,rfl⟩
end Go.Proofs.YtobejhpigbllpaaGreatDoor.Am
end
section
set_option linter.unusedVariables false
namespace Go.Proofs.YtobejhpigbllpaaGreatDoor.Am
open Go.Proofs Go.RowKit
set_option maxHeartbeats 2000000 in
set_option maxRecDepth 1000000 in
theorem uJ:gH Tryz.prog 106 5:=by
 intro b n w h1 hb hf hn
 obtain⟨cs,hrun,hle,hmax⟩:=Lib.run_makeNoZero (P:=Tryz.prog) w.drew #[3] 22 5 (by kernel_rfl) n hn
 refine⟨cs,hle,?_⟩
 have hw:IntKind.i64.wrap (IntKind.i64.wrap 0+(n:Int))=n:=by
  rw[IntKind.wrap_i64,IntKind.wrap_i64]
  omega
 have hcall:(callFunc 143 #[.int .i64 (IntKind.i64.wrap (IntKind.i64.wrap 0+(n:Int)))]).run Tryz.prog w.drew= .ok (.value (.slice (some ⟨w.drew.heap.size,0,none⟩) n cs.size)) (w.drew.drew.drew.alloc (.cells cs 5)):=by
  rw[hw,run_callFunc_extern Tryz.func143 (by kernel_rfl) (by kernel_rfl) (by kernel_rfl) (e:=Extern.BytealgMakeNoZero.makeNoZero #[3] #[22]) (by kernel_rfl),hrun]
  rfl
 have c1:w.drew.cell? ⟨b,1,none⟩=some (.slice none 0 0):=h1
 have c2:(w.alloc (.cells cs 5)).cell? ⟨b,1,none⟩=some (.slice none 0 0):=by
  have:(w.alloc (.cells cs 5)).heap[b]? =w.heap[b]? :=(Lib.alloc_old w _ b hb)
  simp only[World.cell?,this];exact h1
 have f2:(w.alloc (.cells cs 5)).frozen? ⟨b,1,none⟩=false:=by
  have:(w.alloc (.cells cs 5)).heap[b]? =w.heap[b]? :=(Lib.alloc_old w _ b hb)
  simp only[World.frozen?,this];exact hf
 have hcopy: ∀W:World,(Builtin.copy_ #[22,22] 3 #[.slice (some ⟨w.heap.size,0,none⟩) 0 cs.size, .slice none 0 0]).run Tryz.prog W= .ok (goInt 0) W:=
  fun W=>run_copy_none W 22 22 3 5 _ _ 0 cs.size 0 0 (by kernel_rfl) (by kernel_rfl) rfl
 clear hw
 go_enter Tryz.func106,Tryz.ntmps106
 go_wp2
 go_region
 all_goals (go_wp2;go_end0;exact⟨rfl,rfl⟩)
end Go.Proofs.YtobejhpigbllpaaGreatDoor.Am
end
section
set_option maxRecDepth 100000
set_option maxHeartbeats 2000000
namespace Go.Proofs.YtobejhpigbllpaaGreatDoor.Am
open Go.Shelf Go.Proofs
def nE:Ren:=⟨fun|217=>144|219=>187|224=>228|225=>229|266=>175|267=>230|314=>248|n=>n,fun|3=>3|4=>4|5=>5|9=>9|46=>175|51=>51|146=>269|n=>n,fun|1=>1|n=>n⟩
theorem iM:Lays.n219 Tryz.prog nE where
 mixed:=by kernel_rfl
 f217:=Tryz.func144.trans (congrArg some (by kernel_rfl))
 f219:=Tryz.func187.trans (congrArg some (by kernel_rfl))
 f224:=Tryz.func228.trans (congrArg some (by kernel_rfl))
 f225:=Tryz.func229.trans (congrArg some (by kernel_rfl))
 f266:=Tryz.func175.trans (congrArg some (by kernel_rfl))
 f267:=Tryz.func230.trans (congrArg some (by kernel_rfl))
 f314:=Tryz.func248.trans (congrArg some (by kernel_rfl))
 t3:=Tryz.underlying3
 a3:=Tryz.isAgg3
 z3:=Tryz.sizeOf3
 v3:=Tryz.zeroValue3
 t4:=Tryz.underlying4
 a4:=Tryz.isAgg4
 z4:=Tryz.sizeOf4
 v4:=Tryz.zeroValue4
 t5:=Tryz.underlying5
 a5:=Tryz.isAgg5
 z5:=Tryz.sizeOf5
 v5:=Tryz.zeroValue5
 t9:=Tryz.underlying9
 a9:=Tryz.isAgg9
 z9:=Tryz.sizeOf9
 v9:=Tryz.zeroValue9
 t46:=Tryz.underlying175
 a46:=Tryz.isAgg175
 z46:=Tryz.sizeOf175
 v46:=Tryz.zeroValue175
 t51:=Tryz.underlying51
 a51:=Tryz.isAgg51
 z51:=Tryz.sizeOf51
 v51:=Tryz.zeroValue51
 t146:=Tryz.underlying269
 a146:=Tryz.isAgg269
 z146:=Tryz.sizeOf269
 v146:=Tryz.zeroValue269
 g1:=by kernel_rfl
theorem ix_run:YM Tryz.prog 187 1:=by
 intro a b w m hl hm
 have h:=Any.stringslite_Index iM ⟨a.toArray⟩ ⟨b.toArray⟩ m w (by show a.toArray.size<_;simpa using hl) hm
 simp at h
 exact h
end Go.Proofs.YtobejhpigbllpaaGreatDoor.Am
end
section
set_option linter.unusedVariables false
set_option maxRecDepth 100000
set_option maxHeartbeats 4000000
namespace Go.Proofs.YtobejhpigbllpaaGreatDoor.Am
open Go.Proofs
theorem Rd:B0 (B2 Tryz.prog) Tryz.prog G1 D6=true:=by kernel_rfl
theorem dE:B0 (B2 Tryz.prog) Tryz.prog L6 GV=true:=by kernel_rfl
theorem cX:B0 (B2 Tryz.prog) Tryz.prog Lz FU=true:=by kernel_rfl
theorem dG:B0 (B2 Tryz.prog) Tryz.prog L8 FW=true:=by kernel_rfl
theorem Xs:B0 (B2 Tryz.prog) Tryz.prog Jn DM=true:=by kernel_rfl
theorem cW:B0 (B2 Tryz.prog) Tryz.prog Ly FT=true:=by kernel_rfl
theorem iP:B0 (B2 Tryz.prog) Tryz.prog N1 Ia=true:=by kernel_rfl
theorem S4:B0 (B2 Tryz.prog) Tryz.prog Hh DU=true:=by kernel_rfl
theorem cY:B0 (B2 Tryz.prog) Tryz.prog L0 GQ=true:=by kernel_rfl
theorem V6:B0 (B2 Tryz.prog) Tryz.prog Iw DW=true:=by kernel_rfl
theorem dD:B0 (B2 Tryz.prog) Tryz.prog L5 GU=true:=by kernel_rfl
theorem Z5:B0 (B2 Tryz.prog) Tryz.prog Kw Gr=true:=by kernel_rfl
theorem Z4:B0 (B2 Tryz.prog) Tryz.prog Kv Gq=true:=by kernel_rfl
theorem Xr:B0 (B2 Tryz.prog) Tryz.prog Jm Fx=true:=by kernel_rfl
theorem S2:B0 (B2 Tryz.prog) Tryz.prog Hf Ds=true:=by kernel_rfl
theorem V9:B0 (B2 Tryz.prog) Tryz.prog Iz DX=true:=by kernel_rfl
theorem iO:B0 (B2 Tryz.prog) Tryz.prog N0 GD=true:=by kernel_rfl
theorem cZ:B0 (B2 Tryz.prog) Tryz.prog L1 GR=true:=by kernel_rfl
theorem iR:B0 (B2 Tryz.prog) Tryz.prog N3 Ic=true:=by kernel_rfl
theorem V7:B0 (B2 Tryz.prog) Tryz.prog Ix E9=true:=by kernel_rfl
theorem dC:B0 (B2 Tryz.prog) Tryz.prog L4 Ec=true:=by kernel_rfl
theorem LO:B0 (B2 Tryz.prog) Tryz.prog Ff CC=true:=by kernel_rfl
theorem IE:B0 (B2 Tryz.prog) Tryz.prog D2 Ba=true:=by kernel_rfl
theorem KR:B0 (B2 Tryz.prog) Tryz.prog E0 B4=true:=by kernel_rfl
theorem Z3:B0 (B2 Tryz.prog) Tryz.prog Ku EX=true:=by kernel_rfl
theorem Xp:B0 (B2 Tryz.prog) Tryz.prog Jk Fv=true:=by kernel_rfl
theorem Ub:B0 (B2 Tryz.prog) Tryz.prog HC D7=true:=by kernel_rfl
theorem S3:B0 (B2 Tryz.prog) Tryz.prog Hg CI=true:=by kernel_rfl
theorem TZ:B0 (B2 Tryz.prog) Tryz.prog HA Em=true:=by kernel_rfl
theorem Z7:B0 (B2 Tryz.prog) Tryz.prog Kx Gs=true:=by kernel_rfl
theorem dB:B0 (B2 Tryz.prog) Tryz.prog L3 FV=true:=by kernel_rfl
theorem iS:B0 (B2 Tryz.prog) Tryz.prog N4 Id=true:=by kernel_rfl
theorem iT:B0 (B2 Tryz.prog) Tryz.prog N5 Ie=true:=by kernel_rfl
theorem iQ:B0 (B2 Tryz.prog) Tryz.prog N2 Ib=true:=by kernel_rfl
theorem V8:B0 (B2 Tryz.prog) Tryz.prog Iy EA=true:=by kernel_rfl
theorem Ua:B0 (B2 Tryz.prog) Tryz.prog HB En=true:=by kernel_rfl
theorem iU:B0 (B2 Tryz.prog) Tryz.prog N6 Ig=true:=by kernel_rfl
theorem VE:B0 (B2 Tryz.prog) Tryz.prog I6 CV=true:=by kernel_rfl
theorem J2:B0 (B2 Tryz.prog) Tryz.prog DN Bv=true:=by kernel_rfl
theorem Pu:B0 (B2 Tryz.prog) Tryz.prog Fo Cz=true:=by kernel_rfl
theorem ZA:B0 (B2 Tryz.prog) Tryz.prog K0 Ej=true:=by kernel_rfl
theorem dJ:B0 (B2 Tryz.prog) Tryz.prog LB Ha=true:=by kernel_rfl
theorem ZC:B0 (B2 Tryz.prog) Tryz.prog K2 Do=true:=by kernel_rfl
theorem NW:B0 (B2 Tryz.prog) Tryz.prog E2 C5=true:=by kernel_rfl
theorem Qi:B0 (B2 Tryz.prog) Tryz.prog Gc Dw=true:=by kernel_rfl
theorem Xv:B0 (B2 Tryz.prog) Tryz.prog Jo Fz=true:=by kernel_rfl
theorem Uc:B0 (B2 Tryz.prog) Tryz.prog JT Eo=true:=by kernel_rfl
theorem Z8:B0 (B2 Tryz.prog) Tryz.prog Ky EZ=true:=by kernel_rfl
theorem dA:B0 (B2 Tryz.prog) Tryz.prog L2 GT=true:=by kernel_rfl
theorem J3:B0 (B2 Tryz.prog) Tryz.prog DO B8=true:=by kernel_rfl
theorem ZB:B0 (B2 Tryz.prog) Tryz.prog K1 Fa=true:=by kernel_rfl
theorem dK:B0 (B2 Tryz.prog) Tryz.prog LC EM=true:=by kernel_rfl
theorem O1:B0 (B2 Tryz.prog) Tryz.prog EO CN=true:=by kernel_rfl
theorem Iq:B0 (B2 Tryz.prog) Tryz.prog Ct Bx=true:=by kernel_rfl
theorem oF:B0 (B2 Tryz.prog) Tryz.prog Pc IX=true:=by kernel_rfl
theorem dM:B0 (B2 Tryz.prog) Tryz.prog LE Hc=true:=by kernel_rfl
theorem dN:B0 (B2 Tryz.prog) Tryz.prog LF Hd=true:=by kernel_rfl
theorem Qh:B0 (B2 Tryz.prog) Tryz.prog Gb Dv=true:=by kernel_rfl
theorem TY:B0 (B2 Tryz.prog) Tryz.prog H9 El=true:=by kernel_rfl
theorem Xt:B0 (B2 Tryz.prog) Tryz.prog LZ GE=true:=by kernel_rfl
theorem Xu:B0 (B2 Tryz.prog) Tryz.prog Ma GF=true:=by kernel_rfl
theorem Ui:B0 (B2 Tryz.prog) Tryz.prog JV Fy=true:=by kernel_rfl
theorem Uh:B0 (B2 Tryz.prog) Tryz.prog JU CA=true:=by kernel_rfl
theorem Z6:B0 (B2 Tryz.prog) Tryz.prog N7 Hy=true:=by kernel_rfl
theorem dF:B0 (B2 Tryz.prog) Tryz.prog L7 GW=true:=by kernel_rfl
theorem Z9:B0 (B2 Tryz.prog) Tryz.prog Kz Gt=true:=by kernel_rfl
theorem J4:B0 (B2 Tryz.prog) Tryz.prog CL B9=true:=by kernel_rfl
theorem dL:B0 (B2 Tryz.prog) Tryz.prog LD Hb=true:=by kernel_rfl
theorem Uk:B0 (B2 Tryz.prog) Tryz.prog HI Er=true:=by kernel_rfl
theorem Pt:B0 (B2 Tryz.prog) Tryz.prog Fm Cy=true:=by kernel_rfl
theorem Kk:B0 (B2 Tryz.prog) Tryz.prog Di BL=true:=by kernel_rfl
theorem Nf:B0 (B2 Tryz.prog) Tryz.prog Ef Cu=true:=by kernel_rfl
theorem J1:B0 (B2 Tryz.prog) Tryz.prog CJ B7=true:=by kernel_rfl
theorem Ue:B0 (B2 Tryz.prog) Tryz.prog HE C7=true:=by kernel_rfl
theorem Ud:B0 (B2 Tryz.prog) Tryz.prog HD C6=true:=by kernel_rfl
theorem Ug:B0 (B2 Tryz.prog) Tryz.prog HG C9=true:=by kernel_rfl
theorem Uf:B0 (B2 Tryz.prog) Tryz.prog HF C8=true:=by kernel_rfl
theorem Rh:B0 (B2 Tryz.prog) Tryz.prog G4 Cg=true:=by kernel_rfl
theorem dI:B0 (B2 Tryz.prog) Tryz.prog LA GZ=true:=by kernel_rfl
theorem Rg:B0 (B2 Tryz.prog) Tryz.prog G3 Cf=true:=by kernel_rfl
theorem Rf:B0 (B2 Tryz.prog) Tryz.prog I3 Bj=true:=by kernel_rfl
theorem Re:B0 (B2 Tryz.prog) Tryz.prog G2 Bd=true:=by kernel_rfl
theorem VB:B0 (B2 Tryz.prog) Tryz.prog I2 CU=true:=by kernel_rfl
theorem VA:B0 (B2 Tryz.prog) Tryz.prog I1 CT=true:=by kernel_rfl
theorem VF:B0 (B2 Tryz.prog) Tryz.prog I7 ED=true:=by kernel_rfl
theorem Uj:B0 (B2 Tryz.prog) Tryz.prog HH Ep=true:=by kernel_rfl
theorem dH:B0 (B2 Tryz.prog) Tryz.prog L9 EL=true:=by kernel_rfl
theorem LP:B0 (B2 Tryz.prog) Tryz.prog DF Cd=true:=by kernel_rfl
theorem JM:B0 (B2 Tryz.prog) Tryz.prog CW BF=true:=by kernel_rfl
theorem IF:B0 (B2 Tryz.prog) Tryz.prog D3 BN=true:=by kernel_rfl
theorem LM:B0 (B2 Tryz.prog) Tryz.prog DE Cc=true:=by kernel_rfl
theorem KS:B0 (B2 Tryz.prog) Tryz.prog GG Ed=true:=by kernel_rfl
theorem VD:B0 (B2 Tryz.prog) Tryz.prog I5 EC=true:=by kernel_rfl
theorem Xq:B0 (B2 Tryz.prog) Tryz.prog Jl Fw=true:=by kernel_rfl
theorem JN:B0 (B2 Tryz.prog) Tryz.prog CX BG=true:=by kernel_rfl
theorem Rc:B0 (B2 Tryz.prog) Tryz.prog G0 D5=true:=by kernel_rfl
theorem JO:B0 (B2 Tryz.prog) Tryz.prog CY BH=true:=by kernel_rfl
theorem VC:B0 (B2 Tryz.prog) Tryz.prog I4 EB=true:=by kernel_rfl
theorem HP:ZY Tryz.prog BV=some Extern.BytealgIndexByte.indexByte:=by kernel_rfl
theorem Mw:ZY Tryz.prog EY=some Extern.AbiNoEscape.same:=by kernel_rfl
theorem KT:ZY Tryz.prog Dh=some Extern.BytealgCompare.compare:=by kernel_rfl
theorem LN:oX Tryz.prog E8=true:=by kernel_rfl
theorem JL:oX Tryz.prog CH=true:=by kernel_rfl
theorem fits:Aa8 (B2 Tryz.prog) Tryz.prog tb:=by
 refine⟨by kernel_rfl,fun ao o h=>nV ao o h,fun g p h=> ?_,fun g cs h=>(by
  have hm:=Ox h
  have all: ∀x∈gll,Bc x.2=0:=by
   simp only[gll,List.forall_mem_cons]
   exact⟨gm_0,gm_2,fun x h=>(by cases h)⟩
  exact all _ hm),fun g fn h=> ?_⟩
 ·have hm:=Ox h
  have all: ∀x∈prl,E4 Tryz.prog tb fun g args h=>if g=x.1 then x.2 args h else none:=by
   simp only[prl,List.forall_mem_cons]
   exact⟨Vs HP,nK Mw,Zr KT,nL LN uJ,cA JL (List.Mem.head _) ix_run,fun x h=>(by cases h)⟩
  exact all _ hm
 have hm:=Ox h
 have all: ∀x∈fnl,B0 (B2 Tryz.prog) Tryz.prog x.2 x.1=true:=by
  simp only[fnl,List.forall_mem_cons]
  exact⟨Rd,dE,cX,dG,Xs,cW,iP,S4,cY,V6,dD,Z5,Z4,Xr,S2,V9,iO,cZ,iR,V7,dC,LO,IE,KR,Z3,Xp,Ub,S3,TZ,Z7,dB,iS,iT,iQ,V8,Ua,iU,VE,J2,Pu,ZA,dJ,ZC,NW,Qi,Xv,Uc,Z8,dA,J3,ZB,dK,O1,Iq,oF,dM,dN,Qh,TY,Xt,Xu,Ui,Uh,Z6,dF,Z9,J4,dL,Uk,Pt,Kk,Nf,J1,Ue,Ud,Ug,Uf,Rh,dI,Rg,Rf,Re,VB,VA,VF,Uj,dH,LP,JM,IF,LM,KS,VD,Xq,JN,Rc,JO,VC,fun x h=>(by cases h)⟩
 exact all _ hm
end Go.Proofs.YtobejhpigbllpaaGreatDoor.Am
end
namespace Go.Proofs.YtobejhpigbllpaaGreatDoor.Am
def Wp(P:Program):Nat→List Field→Option Nat
 |pos,[]=>some pos
 |pos,f::fs=>if Nat.beq f.offset pos then Wp P (pos+P.cellsOf f.type) fs else none
def Ip(P:Program):Nat→TypeId→Bool
 |0,_=>false
 |n+1,t=>
  match P.underlying t with
  |some .bool=>Nat.beq (P.cellsOf t) 1
  |some (.int _)=>Nat.beq (P.cellsOf t) 1
  |some .string=>Nat.beq (P.cellsOf t) 1
  |some (.pointer e)=>Nat.beq (P.cellsOf t) 1&&Nat.blt 0 (P.cellsOf e)&&Ip P n e
  |some (.slice e)=>Nat.beq (P.cellsOf t) 1&&Nat.blt 0 (P.cellsOf e)&&Ip P n e
  |some (.struct fs)=>decide (Wp P 0 fs.toList=some (P.cellsOf t))&&fs.toList.all fun f=>Ip P n f.type
  |some (.array m e)=>Nat.beq (P.cellsOf t) (m*P.cellsOf e)&&Ip P n e
  |_=>false
def aL(T:TypeId→List AV→Prop):List Field→List AV→Prop
 |[],cs=>cs=[]
 |f::fs,cs=> ∃a b,cs=a++b∧T f.type a∧aL T fs b
def F5(P:Program):Nat→TypeId→List AV→Prop
 |0,_,_=>False
 |n+1,t,cs=>
  match P.underlying t with
  |some .bool=> ∃b,cs=[.b b]
  |some (.int k)=> ∃x,cs=[.i k x]∧k.has x
  |some .string=> ∃l,cs=[.s l]
  |some (.pointer e)=>cs=[.nilp]∨ ∃ds,cs=[.ip ds 0]∧F5 P n e ds
  |some (.slice e)=>cs=[.nils]∨ ∃els:List (List AV),cs=[.sl (P.cellsOf e) els]∧ ∀x∈els,F5 P n e x
  |some (.struct fs)=>aL (F5 P n) fs.toList cs
  |some (.array m e)=> ∃els:List (List AV),els.length=m∧cs=els.flatten∧ ∀x∈els,F5 P n e x
  |_=>False
section
variable{P:Program}{H:Type}{enc:TypeId×Value→H}{w:World}{spare:Nat→Bool}{held:Bool}
theorem TA{base:Nat}{a:Addr}{n:Nat}{cs:List Value}(h:w.cells? base a n=some cs):cs.length=n∧ ∀(j:Nat) (v:Value),cs[j]? =some v→w.cell? (a.add j)=some v:=by
 unfold World.cells? at h
 split at h
 ·refine⟨by rw[mapM_some_length h];simp,fun j v hj=> ?_⟩
  have hl:j<n:=by have:=AM hj;rw[mapM_some_length h]at this;simpa using this
  have:=mapM_some_get h j j (by simp[hl])
  rw[this,hj]
 ·cases h
theorem vF{a:Addr}{v:Value}(h:w.cell? a=some v):a.spot=none∧a.block<w.heap.size:=by
 unfold World.cell? at h
 split at h
 ·rename_i c e fr hb
  refine⟨?_,(Array.getElem?_eq_some_iff.1 hb).1⟩
  split at h
  ·cases h
  ·rename_i hs;simpa using hs
 ·cases h
theorem R2{base:Nat}{a:Addr}{n:Nat}{cs:List Value}(h:w.cells? base a n=some cs)(hn:0<n): ∃b off,a=⟨b,off,none⟩∧b<w.heap.size∧D1 w b off cs∧cs.length=n:=by
 obtain⟨h1,h2⟩:=TA h
 obtain⟨b,off,sp⟩:=a
 have h0:=h2 0 cs[0] (by simp)
 have:=vF h0
 simp only[Addr.add,if_true]at this
 obtain⟨rfl,hlt⟩:=this
 exact⟨b,off,rfl,hlt,fun j v hj=>by have:=h2 j v hj;rwa [F4]at this,h1⟩
theorem jT{p:Nat→List AV→List Value→Prop}: ∀(len:Nat),(∀i,i<len→ ∃x y,p i x y)→ ∃(xs:List (List AV)) (ys:List (List Value)),xs.length=len∧ys.length=len∧ ∀(i:Nat) x y,xs[i]? =some x→ys[i]? =some y→p i x y
 |0,_=>⟨[],[],rfl,rfl,fun i x y h=>by simp at h⟩
 |n+1,h=>by
  obtain⟨xs,ys,h1,h2,h3⟩:=jT n fun i hi=>h i (by omega)
  obtain⟨x,y,hp⟩:=h n (by omega)
  refine⟨xs++[x],ys++[y],by simp[h1],by simp[h2],fun i u v hu hv=> ?_⟩
  by_cases hi:i<n
  ·rw[List.getElem?_append_left (by omega)]at hu hv
   exact h3 i u v hu hv
  ·have hlt:=AM hu
   simp only[List.length_append,List.length_cons,List.length_nil]at hlt
   obtain rfl:i=n:=by omega
   rw[List.getElem?_append_right (by omega),h1]at hu
   rw[List.getElem?_append_right (by omega),h2]at hv
   simp only[Nat.sub_self,List.getElem?_cons_zero,Option.some.injEq]at hu hv
   subst hu;subst hv
   exact hp
theorem Vm{C:Da}: ∀{xs:List (List AV)} {ys:List (List Value)},xs.length=ys.length→(∀(i:Nat) x y,xs[i]? =some x→ys[i]? =some y→AT C x y)→AK C xs ys
 |[],[],_,_=>rfl
 |[],_::_,h,_=>by simp at h
 |_::_,[],h,_=>by simp at h
 |x::xs,y::ys,h,k=>⟨y,ys,rfl,k 0 x y rfl rfl,Vm (by simpa using h) fun i u v hu hv=>k (i+1) u v (by simpa using hu) (by simpa using hv)⟩
theorem VV{sz:Nat}: ∀(l:List (List Value)),(∀y∈l,y.length=sz)→ ∀(j:Nat) (v:Value),l.flatten[j]? =some v→ ∃(i r:Nat) (y:List Value),j=i*sz+r∧l[i]? =some y∧y[r]? =some v
 |[],_,j,v,h=>by simp at h
 |y::l,hy,j,v,h=>by
  rw[List.flatten_cons]at h
  have hyl:=hy y List.mem_cons_self
  rcases Nat.lt_or_ge j y.length with hlt|hge
  ·rw[List.getElem?_append_left hlt]at h
   exact⟨0,j,y,by simp,rfl,h⟩
  ·rw[List.getElem?_append_right hge]at h
   obtain⟨i,r,u,h1,h2,h3⟩:=VV l (fun z hz=>hy z (List.mem_cons_of_mem _ hz)) _ _ h
   exact⟨i+1,r,u,by rw[Nat.succ_mul];omega,by simpa using h2,h3⟩
theorem cI(φ:Nat→Place)(w:World)(b:Nat): ¬(⟨φ,[],w⟩:Da).own b:=by
 rintro⟨id,h,_⟩
 exact absurd h (Nat.not_lt_zero _)
def Reads(P:Program)(φ:Nat→Place)(w:World)(n:Nat)(t:TypeId)(cs:List Value):Prop:=
 ∃cs1:List AV,F5 P n t cs1∧AT ⟨φ,[],w⟩ cs1 cs∧cs1.all scal=true∧cs.length=P.cellsOf t
theorem QP(φ:Nat→Place)(n:Nat)(T: ∀f:Field,Ip P n f.type=true→ ∀cs:List Value,(∃fuel x,DataW.trod enc P w 0 spare held fuel f.type cs=some x)→Reads P φ w n f.type cs):
  ∀(fs:List Field) (pos tot:Nat) (cs:List Value),fs.all (fun f=>Ip P n f.type)=true→Wp P pos fs=some tot→cs.length=tot→
   (∀f∈fs,∃fuel x,DataW.trod enc P w 0 spare held fuel f.type ((cs.drop f.offset).take (P.cellsOf f.type))=some x)→
   ∃cs1:List AV,aL (F5 P n) fs cs1∧AT ⟨φ,[],w⟩ cs1 (cs.drop pos)∧cs1.all scal=true
 |[],pos,tot,cs,_,hc,hl,_=>by
  simp only[Wp,Option.some.injEq]at hc
  subst hc
  exact⟨[],rfl,by rw[List.drop_of_length_le (by omega)];rfl,rfl⟩
 |f::fs,pos,tot,cs,hp,hc,hl,hr=>by
  simp only[List.all_cons,Bool.and_eq_true]at hp
  simp only[Wp]at hc
  split at hc
  ·rename_i ho
   rw[Nat.beq_eq]at ho
   obtain⟨cs1,t1,r1,s1,l1⟩:=T f hp.1 _ (hr f List.mem_cons_self)
   obtain⟨bs,t2,r2,s2⟩:=QP φ n T fs _ tot cs hp.2 hc hl fun g hg=>hr g (List.mem_cons_of_mem _ hg)
   refine⟨cs1++bs,⟨cs1,bs,rfl,t1,t2⟩,?_,by simp only[List.all_append,s1,s2,Bool.and_self]⟩
   rw[ho]at r1 l1
   have hsplit:cs.drop pos=(cs.drop pos).take (P.cellsOf f.type)++cs.drop (pos+P.cellsOf f.type):=by
    rw[←List.drop_drop,List.take_append_drop]
   rw[hsplit]
   exact AT.app r1 r2
  ·cases hc
theorem Og(φ:Nat→Place): ∀(n:Nat) (t:TypeId),Ip P n t=true→ ∀(fuel:Nat) (cs:List Value) (x:DataW H×List MemPlace),DataW.trod enc P w 0 spare held fuel t cs=some x→Reads P φ w n t cs
 |0,_,h=>by simp[Ip]at h
 |n+1,t,h=>by
  intro fuel cs x hx
  simp only[Ip]at h
  cases hu:P.underlying t with
  |none=>rw[hu]at h;simp at h
  |some d=>
   rw[hu]at h
   cases fuel with
   |zero=>simp[DataW.trod]at hx
   |succ fuel=>
    cases d<;>simp only[Bool.false_eq_true]at h
    case bool=>
     rw[Nat.beq_eq]at h
     rcases cs with _|⟨v,_|⟨u,r⟩⟩
     ·simp[DataW.trod,hu]at hx
     ·cases v<;>simp[DataW.trod,hu]at hx
      rename_i b
      exact⟨[.b b],by simp only[F5,hu];exact⟨b,rfl⟩,⟨_,_,rfl,rfl,rfl⟩,rfl,h.symm⟩
     ·cases v<;>simp[DataW.trod,hu]at hx
    case int k=>
     rw[Nat.beq_eq]at h
     rcases cs with _|⟨v,_|⟨u,r⟩⟩
     ·simp[DataW.trod,hu]at hx
     ·cases v<;>simp[DataW.trod,hu]at hx
      rename_i k' z
      obtain⟨⟨rfl,hwf⟩,_⟩:=hx
      refine⟨[.i k' z],?_,⟨_,_,rfl,rfl,rfl⟩,rfl,h.symm⟩
      simp only[F5,hu]
      simp only[Lit.wf,Bool.and_eq_true,decide_eq_true_eq]at hwf
      exact⟨z,rfl,hwf⟩
     ·cases v<;>simp[DataW.trod,hu]at hx
    case string=>
     rw[Nat.beq_eq]at h
     rcases cs with _|⟨v,_|⟨u,r⟩⟩
     ·simp[DataW.trod,hu]at hx
     ·cases v<;>simp[DataW.trod,hu]at hx
      rename_i b
      exact⟨[.s b.data.toList],by simp only[F5,hu];exact⟨_,rfl⟩,⟨_,_,rfl,by simp[Fj],rfl⟩,rfl,h.symm⟩
     ·cases v<;>simp[DataW.trod,hu]at hx
    case pointer e=>
     simp only[Bool.and_eq_true,Nat.beq_eq,Nat.blt_eq]at h
     obtain⟨⟨h1,h2⟩,h3⟩:=h
     rcases cs with _|⟨v,_|⟨u,r⟩⟩
     ·simp[DataW.trod,hu]at hx
     ·cases v<;>try (simp[DataW.trod,hu]at hx;done)
      rename_i p
      cases p with
      |none=>exact⟨[.nilp],by simp only[F5,hu];left;trivial,⟨_,_,rfl,rfl,rfl⟩,rfl,h1.symm⟩
      |some p=>
       simp only[DataW.trod,hu]at hx
       obtain⟨y,hy,_⟩:=Option.map_eq_some_iff.1 hx
       obtain⟨cs',hc,ht⟩:=Option.bind_eq_some_iff.1 hy
       obtain⟨b,off,rfl,hlt,hh,hl⟩:=R2 hc h2
       obtain⟨cs1,t1,r1,s1,l1⟩:=Og φ n e h3 fuel cs' y ht
       refine⟨[.ip cs1 0],by simp only[F5,hu];exact .inr ⟨cs1,rfl,t1⟩,⟨_,_,rfl,⟨b,off,cs',rfl,hlt,cI φ w b,hh,s1,r1⟩,rfl⟩,rfl,h1.symm⟩
     ·cases v<;>simp[DataW.trod,hu]at hx
    case slice e=>
     simp only[Bool.and_eq_true,Nat.beq_eq,Nat.blt_eq]at h
     obtain⟨⟨h1,h2⟩,h3⟩:=h
     rcases Go.Deep.open_slice hu hx with ⟨rfl,_⟩|⟨a,len,cap,m,n',D,Pl,rfl,hb,hl,hm,hmm,rfl,hel⟩
     ·exact⟨[.nils],by simp only[F5,hu];left;trivial,⟨_,_,rfl,rfl,rfl⟩,rfl,h1.symm⟩
     ·have hlm:len≤m:=by rw[hmm];split<;>omega
      obtain⟨xs,ys,x1,y1,hp⟩:=jT (p:=fun i x y=>F5 P n e x∧AT ⟨φ,[],w⟩ x y∧x.all scal=true∧y.length=P.cellsOf e∧w.cells? 0 (a.add (i*P.cellsOf e)) (P.cellsOf e)=some y) len fun i hi=>by
       obtain⟨cs',c1,c2⟩:=hel i (by omega)
       obtain⟨cs1,t1,r1,s1,l1⟩:=Og φ n e h3 n' cs' _ c2
       exact⟨cs1,cs',t1,r1,s1,l1,c1⟩
      have getx: ∀x∈xs,∃(i:Nat) (y:List Value),xs[i]? =some x∧ys[i]? =some y:=by
       intro x hx
       obtain⟨i,hi⟩:=List.mem_iff_getElem?.1 hx
       have:=AM hi
       exact⟨i,ys[i]'(by omega),hi,List.getElem?_eq_getElem (by omega)⟩
      have gety: ∀y∈ys,y.length=P.cellsOf e:=by
       intro y hy
       obtain⟨i,hi⟩:=List.mem_iff_getElem?.1 hy
       have:=AM hi
       exact(hp i (xs[i]'(by omega)) y (List.getElem?_eq_getElem (by omega)) hi).2.2.2.1
      refine⟨[.sl (P.cellsOf e) xs],?_,⟨_,_,rfl,?_,rfl⟩,rfl,h1.symm⟩
      ·simp only[F5,hu]
       refine .inr ⟨xs,rfl,fun x hx=> ?_⟩
       obtain⟨i,y,hi,hy⟩:=getx x hx
       exact(hp i x y hi hy).1
      ·by_cases h0:len=0
       ·subst h0
        exact .inr ⟨List.eq_nil_of_length_eq_zero x1,a,cap,rfl⟩
       ·have hpos:0<len:=by omega
        obtain⟨y0,hy0⟩: ∃y,ys[0]? =some y:=⟨_,List.getElem?_eq_getElem (by omega)⟩
        obtain⟨x0,hx0⟩: ∃y,xs[0]? =some y:=⟨_,List.getElem?_eq_getElem (by omega)⟩
        have hc0:=(hp 0 x0 y0 hx0 hy0).2.2.2.2
        simp only[Nat.zero_mul,Addr.add,if_true]at hc0
        obtain⟨b,off,rfl,hlt,_,_⟩:=R2 hc0 h2
        refine .inl ⟨b,off,cap,ys,by rw[x1],by rw[x1];exact hl,hlt,cI φ w b,?_,fun x hx=> ?_,Vm (by rw[x1,y1]) fun i x y hi hy=>(hp i x y hi hy).2.1⟩
        ·intro j v hj
         obtain⟨i,r,y,rfl,hy,hr⟩:=VV ys gety j v hj
         have hi:=AM hy
         have hc:=(hp i (xs[i]'(by omega)) y (List.getElem?_eq_getElem (by omega)) hy).2.2.2.2
         have:=(TA hc).2 r v hr
         rwa [F4,F4,Nat.add_assoc]at this
        ·obtain⟨i,y,hi,hy⟩:=getx x hx
         have:=hp i x y hi hy
         exact⟨by rw[←this.2.1.length];exact this.2.2.2.1,this.2.2.1⟩
    case struct fs=>
     simp only[Bool.and_eq_true,decide_eq_true_eq]at h
     obtain⟨h1,h2⟩:=h
     simp only[DataW.trod,hu]at hx
     split at hx
     ·rename_i hl
      obtain⟨xs,hxs,_⟩:=Option.map_eq_some_iff.1 hx
      obtain⟨cs1,t1,r1,s1⟩:=QP (enc:=enc) (spare:=spare) (held:=held) φ n (fun f hf cs hh=>by obtain⟨fl,x,hh⟩:=hh;exact Og φ n f.type hf fl cs x hh) fs.toList 0 _ cs h2 h1 hl fun f hf=>by
       obtain⟨i,hi⟩:=List.mem_iff_getElem?.1 hf
       have:=mapM_some_get hxs i f hi
       have hlen:=mapM_some_length hxs
       have hi':=AM hi
       rw[List.getElem?_eq_getElem (by omega)]at this
       exact⟨fuel,_,this⟩
      exact⟨cs1,by simp only[F5,hu];exact t1,by simpa using r1,s1,hl⟩
     ·cases hx
    case array m e=>
     simp only[Bool.and_eq_true,Nat.beq_eq]at h
     obtain⟨h1,h2⟩:=h
     simp only[DataW.trod,hu]at hx
     split at hx
     ·rename_i hl
      obtain⟨xs,hxs,_⟩:=Option.map_eq_some_iff.1 hx
      have hxl:=mapM_some_length hxs
      simp only[List.length_range]at hxl
      obtain⟨els,ys,x1,y1,hp⟩:=jT (p:=fun i x y=>F5 P n e x∧AT ⟨φ,[],w⟩ x y∧x.all scal=true∧y=(cs.drop (i*P.cellsOf e)).take (P.cellsOf e)∧y.length=P.cellsOf e) m fun i hi=>by
       have:=mapM_some_get hxs i i (by simp[hi])
       rw[List.getElem?_eq_getElem (by omega)]at this
       obtain⟨cs1,t1,r1,s1,l1⟩:=Og φ n e h2 fuel _ _ this
       exact⟨cs1,_,t1,r1,s1,rfl,l1⟩
      have hys: ∀k,k≤m→(ys.take k).flatten=cs.take (k*P.cellsOf e):=by
       intro k
       induction k with
       |zero=>intro _;simp
       |succ k ih=>
        intro hk
        obtain⟨y,hy⟩: ∃y,ys[k]? =some y:=⟨_,List.getElem?_eq_getElem (by omega)⟩
        have:=hp k (els[k]'(by omega)) y (List.getElem?_eq_getElem (by omega)) hy
        rw[List.take_add_one,hy,List.flatten_append,ih (by omega)]
        simp only[Option.toList_some,List.flatten_cons,List.flatten_nil,List.append_nil]
        rw[this.2.2.2.1,Nat.succ_mul,List.take_add]
      have hfl:ys.flatten=cs:=by
       have:=hys m (Nat.le_refl _)
       rwa [List.take_of_length_le (by omega),List.take_of_length_le (by omega)]at this
      refine⟨els.flatten,?_,?_,?_,hl⟩
      ·simp only[F5,hu]
       refine⟨els,x1,rfl,fun x hx=> ?_⟩
       obtain⟨i,hi⟩:=List.mem_iff_getElem?.1 hx
       have:=AM hi
       exact(hp i x (ys[i]'(by omega)) hi (List.getElem?_eq_getElem (by omega))).1
      ·have:=AK.flat (Vm (C:=⟨φ,[],w⟩) (by rw[x1,y1]) fun i x y hi hy=>(hp i x y hi hy).2.1)
       rwa [hfl]at this
      ·refine KC fun x hx=> ?_
       obtain⟨i,hi⟩:=List.mem_iff_getElem?.1 hx
       have:=AM hi
       exact(hp i x (ys[i]'(by omega)) hi (List.getElem?_eq_getElem (by omega))).2.2.1
     ·cases hx
end
end Go.Proofs.YtobejhpigbllpaaGreatDoor.Am
namespace Go.Proofs.YtobejhpigbllpaaGreatDoor.Am
section
variable{T:Hj→Oper→Bool}{P:Program}{tb:CD}
def SX(P:Program)(n:Nat)(t:TypeId)(x:AV):Prop:=if Eh P t=true then∃cs,x= .agg cs∧F5 P n t cs else F5 P n t [x]
theorem aJ{φ:Nat→Place}{w:World}{D:Da}(X:JH ⟨φ,[],w⟩ D):Go.RowKit.Below w.heap.size w D.w:=
 ⟨X.rest.1,X.rest.2.1,X.rest.2.2,X.size,fun k hk=>(X.same k hk (cI φ w k)).1⟩
theorem oH(φ:Nat→Place)(w:World)(hg: ∀g cs,tb.gl g=some cs→g<w.heap.size∧cs.all scal=true∧ ∃vs,D1 w g 0 vs∧AT ⟨φ,[],w⟩ cs vs)(hi: ∀g∈tb.it,∃m:Int,w.cell? ⟨g,0,none⟩=some (.int .i64 m)):Inv tb ⟨φ,[],w⟩:=
 ⟨fun id o h=>by simp at h,fun i j h=>absurd h (Nat.not_lt_zero _),fun i h=>absurd h (Nat.not_lt_zero _),fun g cs h=>by
  obtain⟨h1,h2,h3⟩:=hg g cs h
  exact⟨h1,cI φ w g,h2,h3⟩,fun g h=>⟨cI φ w g,hi g h⟩⟩
theorem mP{H:Type}{enc:TypeId×Value→H}{W:World}{base:Nat}{spare:Nat→Bool}{held:Bool}{n:Nat}{t:TypeId}(hp:Ip P n t=true){v:Value}{d:DataW H}{ps:List MemPlace}(hv:Value.okWide P W .any base t v)
  (h:DataW.Trod enc P W 0 spare held t v d ps) (φ:Nat→Place): ∃x:AV,SX P n t x∧Fj ⟨φ,[],W⟩ x v:=by
 obtain⟨fuel,h⟩:=h
 obtain⟨cs1,t1,r1,s1,l1⟩:=Og φ n t hp fuel _ _ h
 cases ha:Eh P t with
 |true=>
  have hc: ∃cs,v= .agg cs:=by
   unfold Value.okWide at hv
   simp only[Eh]at ha
   split at hv
   ·obtain⟨cs,e,_⟩:=hv;exact⟨cs,e⟩
   ·obtain⟨cs,e,_⟩:=hv;exact⟨cs,e⟩
   ·rename_i h1 h2
    split at ha
    ·rename_i fs hu;exact absurd hu (h1 fs)
    ·rename_i m e hu;exact absurd hu (h2 m e)
    ·cases ha
  obtain⟨cs,rfl⟩:=hc
  exact⟨.agg cs1,by simp only[SX,ha,if_true];exact⟨cs1,rfl,t1⟩,cs.toList,by simp,s1,by simpa [Value.cells]using r1⟩
 |false=>
  have hna: ∀cs,v≠ .agg cs:=by
   rintro cs rfl
   simp only[Eh]at ha
   unfold Value.okWide at hv
   cases n with
   |zero=>simp[Ip]at hp
   |succ n=>
    simp only[Ip]at hp
    split at hp<;>rename_i hu<;>simp only[hu]at hv ha<;>first
     |(simp only[Cell.okWide,Cell.ok,hu]at hv;done)
     |(cases ha;done)
     |(cases hp;done)
  have hc:v.cells.toList=[v]:=by
   cases v<;>first
    |rfl
    |exact absurd rfl (hna _)
  rw[hc]at r1
  have hl:=r1.length
  obtain⟨x,rfl⟩: ∃x,cs1=[x]:=by
   match cs1,hl with
   |[x],_=>exact⟨x,rfl⟩
  obtain⟨u,q,e,h1,h2⟩:=r1
  simp only[List.cons.injEq]at e
  obtain⟨rfl,_⟩:=e
  exact⟨x,by simp only[SX,ha,Bool.false_eq_true,if_false];exact t1,h1⟩
def Pi(P:Program)(n:Nat):List TypeId→List AV→Prop
 |[],xs=>xs=[]
 |t::ts,xs=> ∃x r,xs=x::r∧SX P n t x∧Pi P n ts r
theorem UL{H:Type}{enc:TypeId×Value→H}{W:World}{base:Nat}{spare:Nat→Bool}{held:Bool}{n:Nat}(φ:Nat→Place): ∀{ts:List TypeId} {vs:List Value} {ds:List (DataW H)} {ps:List MemPlace},ts.all (Ip P n)=true→
  (∀(j:Nat) t v,ts[j]? =some t→vs[j]? =some v→Value.okWide P W .any base t v)→DataW.TrodAll enc P W 0 spare held ts vs ds ps→ ∃xs:List AV,Pi P n ts xs∧AT ⟨φ,[],W⟩ xs vs∧ds.length=ts.length
 |[],[],[],_,_,_,_=>⟨[],rfl,rfl,rfl⟩
 |[],[],_::_,_,_,_,h=>h.elim
 |[],_::_,_,_,_,_,h=>by cases ‹List (DataW H)› <;>exact h.elim
 |_::_,[],_,_,_,_,h=>by cases ‹List (DataW H)› <;>exact h.elim
 |_::_,_::_,[],_,_,_,h=>h.elim
 |t::ts,v::vs,d::ds,ps,hp,hv,⟨p,q,h1,h2,_⟩=>by
  simp only[List.all_cons,Bool.and_eq_true]at hp
  obtain⟨x,t1,r1⟩:=mP hp.1 (hv 0 t v rfl rfl) h1 φ
  obtain⟨xs,t2,r2,l2⟩:=UL φ hp.2 (fun j t v ht hv'=>hv (j+1) t v (by simpa using ht) (by simpa using hv')) h2
  exact⟨x::xs,⟨x,xs,rfl,t1,t2⟩,⟨v,vs,rfl,r1,r2⟩,by simp[l2]⟩
theorem P2{H:Type}{enc:TypeId×Value→H}(hl:laidOutB P=true){W W':World}(hb:Go.RowKit.Below W.heap.size W W'): ∀{ts:List TypeId} {vs:List Value} {ds:List (DataW H)} {ps:List MemPlace},
  ts.all (fun t=>P.readableRec t&&decide (t<P.types.size))=true→DataW.TrodAll enc P W 0 (fun _=>true) true ts vs ds ps→(∀x∈ps,x.block<W.heap.size)→DataW.TrodAll enc P W' 0 (fun b=>decide (b<W.heap.size)) true ts vs ds ps
 |[],[],[],_,_,h,_=>h
 |[],[],_::_,_,_,h,_=>h.elim
 |[],_::_,_,_,_,h,_=>by cases ‹List (DataW H)› <;>exact h.elim
 |_::_,[],_,_,_,h,_=>by cases ‹List (DataW H)› <;>exact h.elim
 |_::_,_::_,[],_,_,h,_=>h.elim
 |t::ts,v::vs,d::ds,ps,hp,⟨p,q,h1,h2,e⟩,hlt=>by
  simp only[List.all_cons,Bool.and_eq_true,decide_eq_true_eq]at hp
  subst e
  exact⟨p,q,Go.RowKit.Below.trod hl hp.1.1 hp.1.2 h1 hb fun x hx=>hlt x (List.mem_append_left _ hx),P2 hl hb hp.2 h2 fun x hx=>hlt x (List.mem_append_right _ hx),rfl⟩
theorem vA(ft:Aa8 T P tb){k:FuncId}{f:Func}{bt:TypeId}{n:Nat}(hl:laidOutB P=true)(hr:f.resultTypes= #[bt])(hb:P.underlying bt=some .bool)(hp:f.params.toList.all (Ip P n)=true)
  (hrd:f.params.toList.all (fun t=>P.readableRec t&&decide (t<P.types.size))=true) {H:Type} {enc:TypeId×Value→H} {s:ChangeSpec} (hs0:s.vars=[]) (hs: ∀ds:List (DataW H),ds.length=f.params.size→s.fn H ds={results:=[.lit (.bool true)],args:=ds})
  {W:World} {base:Nat} {args:Array Value} {ds gs:List (DataW H)} {before:List MemPlace} (hval: ∀(j:Nat) t v,f.params[j]? =some t→args[j]? =some v→Value.okWide P W .any base t v)
  (hW:DataW.Whole enc P f.params.toList s.vars false W args.toList ds gs before)
  (hgl: ∀g cs,tb.gl g=some cs→g<W.heap.size∧cs.all scal=true∧ ∃vs,D1 W g 0 vs∧AT ⟨fun _=>⟨0,0,0⟩,[],W⟩ cs vs)
  (hit: ∀g∈tb.it,∃m:Int,W.cell? ⟨g,0,none⟩=some (.int .i64 m))
  (law: ∀xs:List AV,Pi P n f.params.toList xs→AT ⟨fun _=>⟨0,0,0⟩,[],W⟩ xs args.toList→ ∃h,BW tb k xs []=some (.b true,h)):
  Calls P k args W fun e W'=> ∃v,e= .returned v∧s.post enc P f false true false false W args v W':=by
 have hW':=hW
 obtain⟨p,q,hA,hV,rfl,hfz,hnd⟩:=hW
 rw[hs0]at hV
 obtain⟨rfl,rfl⟩:=Go.ChangeShapes.trodVars_none hV
 obtain⟨xs,t1,r1,l1⟩:=UL (fun _=>⟨0,0,0⟩) hp (fun j t v ht hv=>hval j t v (by simpa using ht) (by simpa using hv)) hA
 obtain⟨h,hd⟩:=law xs t1 r1
 have I:Inv tb ⟨fun _=>⟨0,0,0⟩,[],W⟩:=oH _ W hgl hit
 have hc:=pA ft (C:=⟨fun _=>⟨0,0,0⟩,[],W⟩) I r1 hd
 refine hc.mono fun e W' ⟨v,D,he,X,ID,hw,hH,hv⟩=> ?_
 subst he
 subst hw
 obtain rfl:v= .bool true:=hv
 have hbl:=aJ X
 have hlt: ∀x∈p,x.block<W.heap.size:=fun x hx=>hW'.lt x (by simpa using hx)
 have hfn:=hs (ds++[]) (by simpa using l1)
 refine⟨_,rfl,ds,[],p++[],[],p,[],hW',?_,?_,?_,hbl.frame _,fun e=>by cases e⟩
 ·rw[hfn,hr]
  refine⟨[],[],⟨1,?_⟩,rfl,rfl⟩
  simp[DataW.trod,hb,Value.cells]
 ·rw[hfn]
  simpa using P2 hl hbl hrd hA hlt
 ·rw[hs0,hfn]
  rfl
def kY{H:Type}:DataW H→Option AV
 | .lit (.int k n)=>some (.i k n)
 | .lit (.string l)=>some (.s l)
 | .lit (.bool b)=>some (.b b)
 | .iface _ _=>some (.ifc 0 .junk)
 |_=>none
def nZ{α β:Type}(F:α→Option β):List α→Option (List β)
 |[]=>some []
 |x::r=>(F x).bind fun x=>(nZ F r).map (x:: ·)
theorem cN{α β:Type}{F:α→Option β}: ∀{l:List α} {r:List β},nZ F l=some r→l.length=r.length∧ ∀(i:Nat) x,l[i]? =some x→ ∃y,r[i]? =some y∧F x=some y
 |[],_,h=>by simp only[nZ,Option.some.injEq]at h;subst h;simp
 |x::l,_,h=>by
  simp only[nZ]at h
  obtain⟨y,hy,h⟩:=Option.bind_eq_some_iff.1 h
  obtain⟨r,hr,rfl⟩:=Option.map_eq_some_iff.1 h
  obtain⟨h1,h2⟩:=cN hr
  refine⟨by simp[h1],fun i z hz=> ?_⟩
  cases i with
  |zero=>simp only[List.getElem?_cons_zero,Option.some.injEq]at hz ⊢;subst hz;exact⟨y,rfl,hy⟩
  |succ i=>simp only[List.getElem?_cons_succ]at hz ⊢;exact h2 i z hz
theorem kS{C:Da}: ∀{xs:List AV} {ys:List Value},xs.length=ys.length→(∀(i:Nat) x y,xs[i]? =some x→ys[i]? =some y→Fj C x y)→AT C xs ys
 |[],[],_,_=>rfl
 |[],_::_,h,_=>by simp at h
 |_::_,[],h,_=>by simp at h
 |x::xs,y::ys,h,g=>⟨y,ys,rfl,g 0 x y rfl rfl,kS (by simpa using h) fun i x y hx hy=>g (i+1) x y (by simpa using hx) (by simpa using hy)⟩
theorem pW{H:Type}{enc:TypeId×Value→H}{W:World}{spare:Nat→Bool}{held:Bool}{C:Da}{fuel:Nat}{t:TypeId}{v:Value}{x:DataW H}{p:List MemPlace}{a:AV}(h:DataW.trod enc P W 0 spare held fuel t [v]=some (x,p))(ha:kY x=some a):Fj C a v∧scal a=true:=by
 cases fuel with
 |zero=>simp[DataW.trod]at h
 |succ fuel=>
  cases hu:P.underlying t with
  |none=>simp[DataW.trod,hu]at h
  |some d=>
   have hx:(∃k n,x= .lit (.int k n)∧a= .i k n)∨(∃l,x= .lit (.string l)∧a= .s l)∨(∃b,x= .lit (.bool b)∧a= .b b)∨ ∃n d,x= .iface n d∧a= .ifc 0 .junk:=by
    unfold kY at ha
    split at ha<;>simp only[Option.some.injEq,reduceCtorEq]at ha<;>subst ha<;>simp
   unfold DataW.trod at h
   rw[hu]at h
   rcases hx with ⟨k,n,rfl,rfl⟩|⟨l,rfl,rfl⟩|⟨b,rfl,rfl⟩|⟨n,y,rfl,rfl⟩
   all_goals (split at h<;>(try split at h)<;>(try split at h)<;>simp_all [Fj,scal,Option.map_eq_some_iff,Option.bind_eq_some_iff])
   obtain⟨rfl,_⟩:=h
   simp
theorem wR{H:Type}{enc:TypeId×Value→H}{W:World}{spare:Nat→Bool}{held:Bool}{C:Da}{fuel:Nat}{t e:TypeId}{m:Nat}{cs:List Value}{ds:List (DataW H)}{p:List MemPlace}{cs1:List AV}
  (hu:P.underlying t=some (.array m e)) (hc:P.cellsOf e=1) (hct:P.cellsOf t=m) (h:DataW.trod enc P W 0 spare held fuel t cs=some (.agg ds,p)) (ha:nZ kY ds=some cs1):AT C cs1 cs∧cs1.all scal=true:=by
 cases fuel with
 |zero=>simp[DataW.trod]at h
 |succ fuel=>
  simp only[DataW.trod,hu,hc,hct]at h
  split at h
  ·rename_i hl
   obtain⟨xs,hxs,h⟩:=Option.map_eq_some_iff.1 h
   simp only[Prod.mk.injEq,DataW.agg.injEq]at h
   obtain⟨rfl,_⟩:=h
   have hxl:=mapM_some_length hxs
   simp only[List.length_range]at hxl
   obtain⟨g1,g2⟩:=cN ha
   simp only[List.length_map]at g1
   have key: ∀(i:Nat) a,cs1[i]? =some a→ ∃v,cs[i]? =some v∧Fj C a v∧scal a=true:=fun i a hi=>by
    have hi':=AM hi
    have:=mapM_some_get hxs i i (by rw[List.getElem?_range (by omega)])
    have hd:(cs.drop (i*1)).take 1=[cs[i]'(by omega)]:=by
     rw[Nat.mul_one,List.drop_eq_getElem_cons (by omega)];rfl
    rw[hd,List.getElem?_eq_getElem (by omega)]at this
    obtain⟨y,hy,hf⟩:=g2 i (xs[i]'(by omega)).1 (by rw[List.getElem?_map,List.getElem?_eq_getElem (by omega)];rfl)
    rw[hi]at hy
    cases hy
    exact⟨_,List.getElem?_eq_getElem (by omega),pW this hf⟩
   refine⟨kS (by omega) fun i x y hx hy=> ?_,?_⟩
   ·obtain⟨v,h1,h2,_⟩:=key i x hx
    rw[hy]at h1;cases h1;exact h2
   ·rw[List.all_eq_true]
    intro x hx
    obtain⟨i,hi⟩:=List.mem_iff_getElem?.1 hx
    obtain⟨v,_,_,h⟩:=key i x hi
    exact h
  ·cases h
theorem cV{W:World}{n:String}{d:DataW Unit}: ∀{l:List (String×DataW Unit)} {ps:List MemPlace},DataW.LaidVars P W l ps→(n,d)∈l→ ∃g t cs fuel p,P.globalNamed n=some g∧(P.globals[g]?).map (·.type)=some t∧W.var? P n=some cs∧
  DataW.trod (fun _=>()) P W 0 (fun _=>true) false fuel t cs.toList=some (d,p)
 |[],_,_,hm=>by cases hm
 |(n',d')::r,ps,⟨g,t,cs,fuel,p,q,h1,h2,h3,h4,h5,_⟩,hm=>by
  rcases List.mem_cons.1 hm with e|hm
  ·simp only[Prod.mk.injEq]at e
   obtain⟨rfl,rfl⟩:=e
   exact⟨g,t,cs,fuel,p,h1,h2,h3,h4⟩
  ·exact cV h5 hm
theorem VS{W:World}{l:List (String×DataW Unit)}(hL:laidMet P l W){n:String}{d:DataW Unit}{ds:List (DataW Unit)}{cs1:List AV}{g:Nat}{t e:TypeId}{m:Nat}(hm:(n,d)∈l)(hg:P.globalNamed n=some g)(ht:(P.globals[g]?).map (·.type)=some t)
  (hu:P.underlying t=some (.array m e)) (hc:P.cellsOf e=1) (hct:P.cellsOf t=m) (hd:d= .agg ds) (ha:nZ kY ds=some cs1):
  g<W.heap.size∧cs1.all scal=true∧ ∃vs,D1 W g 0 vs∧AT ⟨fun _=>⟨0,0,0⟩,[],W⟩ cs1 vs:=by
 obtain⟨ps,hv,_,_⟩:=hL
 obtain⟨g',t',cs,fuel,p,h1,h2,h3,h4⟩:=cV hv hm
 rw[hg]at h1;cases h1
 rw[ht]at h2;cases h2
 subst hd
 obtain⟨r1,r2⟩:=wR (C:=⟨fun _=>⟨0,0,0⟩,[],W⟩) hu hc hct h4 ha
 simp only[World.var?,hg,Option.bind_some]at h3
 have hlt:g<W.heap.size:=by
  rcases Nat.lt_or_ge g W.heap.size with h|h
  ·exact h
  ·rw[Array.getElem?_eq_none h]at h3;cases h3
 refine⟨hlt,r2,cs.toList,fun j v hj=> ?_,r1⟩
 split at h3
 ·rename_i cs' ty fr hh
  cases h3
  simp only[World.cell?,hh,Nat.zero_add]
  simpa using hj
 ·cases h3
end
end Go.Proofs.YtobejhpigbllpaaGreatDoor.Am
namespace Go.Proofs.YtobejhpigbllpaaGreatDoor.Am
def CS(P:Program)(t:TypeId)(u:T)(I:u.α→Prop):Prop:= ∀n cs,F5 P n t cs→ ∃x,u.R (fun _=>False) [] cs x∧I x
def WD(P:Program)(fs:List Field)(u:T)(I:u.α→Prop):Prop:= ∀n cs,aL (F5 P n) fs cs→ ∃x,u.R (fun _=>False) [] cs x∧I x
section
variable{P:Program}{t e:TypeId}
theorem CS.weak{u:T}{I J:u.α→Prop}(h:CS P t u I)(w: ∀x,I x→J x):CS P t u J:=fun n cs k=>by
 obtain⟨x,r,i⟩:=h n cs k
 exact⟨x,r,w x i⟩
theorem CS.int{k:IntKind}(hu:P.underlying t=some (.int k)):CS P t (T.int k) fun x=>k.has x:=by
 intro n cs h
 cases n with
 |zero=>exact h.elim
 |succ n=>
  simp only[F5,hu]at h
  obtain⟨x,rfl,hx⟩:=h
  exact⟨x,rfl,hx⟩
theorem WC{k:IntKind}{m:Nat}{α:Type}{c:α→Nat}{z:α}{hs hm}(ofN: ∀i,i<m→ ∃x,c x=i)(hk: ∀x,k.has x→0≤x∧x<m)(hu:P.underlying t=some (.int k)):CS P t (RH α (fun x=> .i k (c x)) z hs hm) fun _=>True:=by
 intro n cs h
 cases n with
 |zero=>exact h.elim
 |succ n=>
  simp only[F5,hu]at h
  obtain⟨x,rfl,hx⟩:=h
  have:=hk x hx
  obtain⟨y,hy⟩:=ofN x.toNat (by omega)
  refine⟨y,?_,trivial⟩
  show [AV.i k x]=[AV.i k (c y)]
  rw[hy];congr 2;omega
theorem tZ{x:Int}:(IntKind.u8.has x→0≤x∧x<(256:Nat))∧(IntKind.u16.has x→0≤x∧x<(65536:Nat))∧(IntKind.u32.has x→0≤x∧x<(4294967296:Nat))∧(IntKind.u64.has x→0≤x∧x<(18446744073709551616:Nat)):=by
 simp only[IntKind.has,IntKind.min,IntKind.max,IntKind.signed,IntKind.bits]
 refine⟨fun h=> ?_,fun h=> ?_,fun h=> ?_,fun h=> ?_⟩<;>simp at h<;>omega
theorem CS.u8(hu:P.underlying t=some (.int .u8)):CS P t T.u8 fun _=>True:=WC (c:=UInt8.toNat) (m:=256) (fun i hi=>⟨UInt8.ofNat i,by rw[UInt8.toNat_ofNat'];exact Nat.mod_eq_of_lt hi⟩) (fun _=>tZ.1) hu
theorem CS.u32(hu:P.underlying t=some (.int .u32)):CS P t T.u32 fun _=>True:=WC (c:=UInt32.toNat) (m:=4294967296) (fun i hi=>⟨UInt32.ofNat i,by rw[UInt32.toNat_ofNat'];exact Nat.mod_eq_of_lt hi⟩) (fun _=>tZ.2.2.1) hu
theorem CS.u64(hu:P.underlying t=some (.int .u64)):CS P t T.u64 fun _=>True:=WC (c:=UInt64.toNat) (m:=18446744073709551616) (fun i hi=>⟨UInt64.ofNat i,by rw[UInt64.toNat_ofNat'];exact Nat.mod_eq_of_lt hi⟩) (fun _=>tZ.2.2.2) hu
theorem RP{u:T}{I:u.α→Prop}(h:CS P e u I){n:Nat}: ∀{els:List (List AV)},(∀x∈els,F5 P n e x)→ ∃xs:List u.α,C1 u (fun _=>False) [] els xs∧ ∀x∈xs,I x
 |[],_=>⟨[],trivial,fun _ h=>by cases h⟩
 |c::els,hx=>by
  obtain⟨xs,h1,h2⟩:=RP h fun y hy=>hx y (List.mem_cons_of_mem _ hy)
  obtain⟨x,h3,h4⟩:=h n c (hx c List.mem_cons_self)
  exact⟨x::xs,⟨h3,h1⟩,fun y hy=>by
   rcases List.mem_cons.1 hy with rfl|hy
   ·exact h4
   ·exact h2 y hy⟩
theorem CS.sl{u:T}{I:u.α→Prop}(h:CS P e u I)(hu:P.underlying t=some (.slice e))(hsz:P.cellsOf e=u.sz):CS P t (T.sl u) fun g=> ∀x∈g.l,I x:=by
 intro n cs k
 cases n with
 |zero=>exact k.elim
 |succ n=>
  simp only[F5,hu]at k
  rcases k with rfl|⟨els,rfl,hels⟩
  ·exact⟨GS.nil,⟨_,rfl,rfl⟩,fun x hx=>by cases hx⟩
  ·obtain⟨xs,h1,h2⟩:=RP h hels
   exact⟨GS.mk xs,⟨_,rfl,trivial,els,by simp[Es,hsz],h1⟩,h2⟩
theorem RG{m:Nat}{u:T}{I:u.α→Prop}(h:CS P e u I)(hu:P.underlying t=some (.array m e)):CS P t (A2 m u) fun g=> ∀x∈g.l,I x:=by
 intro n cs k
 cases n with
 |zero=>exact k.elim
 |succ n=>
  simp only[F5,hu]at k
  obtain⟨els,hl,rfl,hels⟩:=k
  obtain⟨xs,h1,h2⟩:=RP h hels
  exact⟨⟨xs,by rw[←h1.length,hl]⟩,⟨els,rfl,h1⟩,h2⟩
theorem WD.one{f:Field}{u:T}{I:u.α→Prop}(h:CS P f.type u I):WD P [f] u I:=by
 rintro n cs ⟨a,b,rfl,h1,h2⟩
 obtain rfl:b=[]:=h2
 rw[List.append_nil]
 exact h n a h1
theorem WD.cons{f:Field}{fs:List Field}{u w:T}{I:u.α→Prop}{J:w.α→Prop}(h:CS P f.type u I)(g:WD P fs w J):WD P (f::fs) (CB u w) fun p=>I p.1∧J p.2:=by
 rintro n cs ⟨a,b,rfl,h1,h2⟩
 obtain⟨x,r1,i1⟩:=h n a h1
 obtain⟨y,r2,i2⟩:=g n b h2
 exact⟨(x,y),⟨a,b,rfl,r1,r2⟩,i1,i2⟩
theorem CS.st{fs:Array Field}{u:T}{I:u.α→Prop}{β:Type}{f:β→u.α}{g:u.α→β}{hfg: ∀y,f (g y)=y}(h:WD P fs.toList u I)(hu:P.underlying t=some (.struct fs)):CS P t (OF u β f g hfg) fun(y:β)=>I (f y):=by
 intro n cs k
 cases n with
 |zero=>exact k.elim
 |succ n=>
  simp only[F5,hu]at k
  obtain⟨x,r,i⟩:=h n cs k
  refine⟨g x,?_,?_⟩
  ·show u.R _ _ _ (f (g x))
   rw[hfg];exact r
  ·show I (f (g x))
   rw[hfg];exact i
end
theorem kK{P:Program}{n:Nat}{t:TypeId}{u:T}{I:u.α→Prop}{v:AV}(ha:Eh P t=u.agg)(h:CS P t u I)(k:SX P n t v): ∃x,u.V (fun _=>False) [] v x∧I x:=by
 unfold SX at k
 cases hu:u.agg with
 |true=>
  rw[ha,hu,if_pos rfl]at k
  obtain⟨cs,rfl,k⟩:=k
  obtain⟨x,r,i⟩:=h n cs k
  exact⟨x, .inl ⟨hu,cs,rfl,r⟩,i⟩
 |false=>
  rw[ha,hu,if_neg (by simp)]at k
  obtain⟨x,r,i⟩:=h n [v] k
  exact⟨x, .inr ⟨hu,r⟩,i⟩
def wK(P:Program):List TypeId→(us:List T)→(Ce us→Prop)→Prop
 |[],[],_=>True
 |[t],[u],I=>Eh P t=u.agg∧CS P t u I
 |t::t'::ts,u::u'::us,I=> ∃(J:u.α→Prop) (K:Ce (u'::us)→Prop),(Eh P t=u.agg∧CS P t u J)∧wK P (t'::ts) (u'::us) K∧ ∀x y,J x→K y→I (x,y)
 |_,_,_=>False
theorem wK.one{P:Program}{t:TypeId}{u:T}{I:u.α→Prop}(ha:Eh P t=u.agg)(h:CS P t u I):wK P [t] [u] I:=⟨ha,h⟩
theorem wK.cons{P:Program}{t t':TypeId}{ts:List TypeId}{u u':T}{us:List T}{J:u.α→Prop}{K:Ce (u'::us)→Prop}(ha:Eh P t=u.agg)(h:CS P t u J)(r:wK P (t'::ts) (u'::us) K):
  wK P (t::t'::ts) (u::u'::us) fun(p:u.α×Ce (u'::us))=>J p.1∧K p.2:=⟨J,K,⟨ha,h⟩,r,fun _ _ h k=>⟨h,k⟩⟩
theorem aZ{P:Program}{n:Nat}: ∀{ts:List TypeId} {us:List T} {I:Ce us→Prop} {xs:List AV},(us=[]→ ∀x,I x)→wK P ts us I→Pi P n ts xs→ ∃a:Ce us,TF (fun _=>False) [] us xs a∧I a
 |[],[],_,xs,h0,_,h=>⟨(),h,h0 rfl ()⟩
 |[t],[u],I,xs,_,hT,⟨x,r,e,h,k⟩=>by
  obtain rfl:r=[]:=k
  obtain⟨a,h1,h2⟩:=kK hT.1 hT.2 h
  exact⟨a,⟨x,e,h1⟩,h2⟩
 |t::t'::ts,u::u'::us,I,xs,_,⟨J,K,hT,hR,hI⟩,⟨x,r,e,h,k⟩=>by
  obtain⟨a,h1,h2⟩:=kK hT.1 hT.2 h
  obtain⟨b,h3,h4⟩:=aZ (fun e=>by cases e) hR k
  exact⟨(a,b),⟨x,r,e,h1,h3⟩,hI a b h2 h4⟩
 |[],_::_,_,_,_,h,_=>h.elim
 |_::_,[],_,_,_,h,_=>by cases ‹List TypeId› <;>exact h.elim
 |[_],_::_::_,_,_,_,h,_=>h.elim
 |_::_::_,[_],_,_,_,h,_=>h.elim
theorem vX{P:Program}{tb:CD}{g n:Nat}{ts:List TypeId}{As:List T}{F:Ce As→Option Bool}{I:Ce As→Prop}(S:Spec tb g As [T.b] F)(hp:tb.prim g=none)(h0:As=[]→ ∀x,I x)(hT:wK P ts As I)(hF: ∀a,I a→F a=some true)
  {xs:List AV} (h:Pi P n ts xs): ∃h,BW tb g xs []=some (.b true,h):=by
 obtain⟨a,ha,hi⟩:=aZ h0 hT h
 obtain⟨v,u,hc,_,vs,hv,w,hw,hb⟩:=(S (fun _=>False) [] xs a (fun _ h=>h.elim) (by simp[Cw]) ha true (hF a hi)).call
 simp only[Bs,hp]at hc
 obtain rfl:w= .b true:=FK.1 hb
 subst hw
 exact⟨u,by rw[hc,hv];rfl⟩
end Go.Proofs.YtobejhpigbllpaaGreatDoor.Am
namespace Go.Proofs.YtobejhpigbllpaaGreatDoor.Am
theorem XG{x:Int}(h0: -9223372036854775808≤x)(h1:x<9223372036854775808):IntKind.i64.wrap x=x:=by
 simp only[IntKind.wrap,IntKind.bits,IntKind.signed];simp;omega
theorem Ca{m:Nat}(h:m<9223372036854775808):IntKind.i64.wrap (m:Int)=m:=XG (by omega) (by omega)
section
variable{α:Type}
theorem XL{l:List α}{n:Nat}(h:n≤l.length):UQ l (some (n:Int)) none=some (l.drop n):=by
 simp[UQ,RO,h]
theorem qD{l:List α}{m n:Nat}(h:m≤n)(h':n≤l.length):UQ l (some (m:Int)) (some (n:Int))=some ((l.take n).drop m):=by
 simp[UQ,RO,h,h']
theorem qG{l:List α}{n:Nat}(h:n≤l.length):slG (.mk l) (some (n:Int)) none=some (.mk (l.drop n)):=by
 simp[slG,RO,GS.l,h,So]
theorem slG_to{l:List α}{n:Nat}(h:n≤l.length):slG (.mk l) none (some (n:Int))=some (.mk (l.take n)):=by
 simp[slG,RO,GS.l,h,So]
theorem Bu{l:List α}{n:Nat}:ES l (n:Int)=l[n]? :=by simp[ES]
theorem Gi{n k:Nat}(h:n<k):Ft k (n:Int)=some n:=by simp[Ft,h]
theorem K3{bytes:Nat}{g:GS α}{x:α}(h:(g.l.length+1)*bytes≤BR):W7 bytes g [x]=some (.mk (g.l++[x])):=by
 unfold W7
 rw[if_pos (by simpa using h)]
 cases g<;>rfl
@[simp] theorem E3 {l : List α} : (GS.mk l).l = l := rfl
@[simp] theorem GS.l_nil : (GS.nil : GS α).l = [] := rfl
theorem Mx{σ β:Type}{F:σ→Option (σ⊕β)}(m:σ→Nat)(I:σ→Prop)(Q:β→Prop)
  (step: ∀s,I s→(∃s',F s=some (.inl s')∧I s'∧m s'<m s)∨ ∃b,F s=some (.inr b)∧Q b): ∀{s},I s→ ∃b,iter F s=some b∧Q b:=by
 have key: ∀n s,m s<n→I s→ ∃b,iter F s=some b∧Q b:=by
  intro n
  induction n with
  |zero=>intro s h;omega
  |succ n ih=>
   intro s h hI
   rcases step s hI with ⟨s',e,hI',hm⟩|⟨b,e,hq⟩
   ·rw[OV e];exact ih s' (by omega) hI'
   ·exact⟨b,S6 e,hq⟩
 intro s hI
 exact key _ s (Nat.lt_succ_self _) hI
theorem CM{σ β γ:Type}{F:σ→Option (σ⊕β)}{K:β→Option γ}{r:Option γ}{s:σ}(m:σ→Nat)(I:σ→Prop)(Q:β→Prop)(h:I s)
  (step: ∀s,I s→(∃s',F s=some (.inl s')∧I s'∧m s'<m s)∨ ∃b,F s=some (.inr b)∧Q b) (fin: ∀b,Q b→K b=r):(iter F s).bind K=r:=by
 obtain⟨b,e,hb⟩:=Mx m I Q step h
 rw[e];exact fin b hb
theorem dP{σ β:Type}{F:σ→Option (σ⊕β)}{b:β}(m:σ→Nat)(I:σ→Prop)
  (step: ∀s,I s→(∃s',F s=some (.inl s')∧I s'∧m s'<m s)∨F s=some (.inr b)) {s:σ} (h:I s):iter F s=some b:=by
 obtain⟨b',e,rfl⟩:=Mx m I (fun b'=>b'=b) (fun s hs=>(step s hs).imp_right fun e=>⟨b,e,rfl⟩) h
 exact e
end
def DG(c:UInt8):AR→List AR
 |[]=>[[]]
 |x::l=>if x=c then []::DG c l else match DG c l with
  |[]=>[[x]]
  |h::t=>(x::h)::t
theorem Oi{c:UInt8}: ∀{p:AR},(∀x∈p,x≠c)→DG c p=[p]
 |[],_=>rfl
 |x::p,h=>by
  simp only[DG,if_neg (h x List.mem_cons_self),Oi fun y hy=>h y (List.mem_cons_of_mem _ hy)]
theorem MJ{c:UInt8}{q:AR}: ∀{p:AR},(∀x∈p,x≠c)→DG c (p++c::q)=p::DG c q
 |[],_=>by simp[DG]
 |x::p,h=>by
  simp only[List.cons_append,DG,if_neg (h x List.mem_cons_self),MJ fun y hy=>h y (List.mem_cons_of_mem _ hy)]
theorem eG(l:AR)(c:UInt8):((∀x∈l,x≠c)∧Kb l c= -1)∨ ∃p q,l=p++c::q∧(∀x∈p,x≠c)∧Kb l c=(p.length:Int):=by
 unfold Kb
 cases e:l.findIdx? (fun x=>x==c)with
 |none=>
  left
  rw[List.findIdx?_eq_none_iff]at e
  exact⟨fun x hx=>by simpa using e x hx,rfl⟩
 |some i=>
  right
  rw[List.findIdx?_eq_some_iff_getElem]at e
  obtain⟨h,h1,h2⟩:=e
  have hc:l[i]=c:=by simpa using h1
  refine⟨l.take i,l.drop (i+1),?_,?_,?_⟩
  ·rw[←hc,←List.drop_eq_getElem_cons h,List.take_append_drop]
  ·intro x hx
   obtain⟨j,hj,rfl⟩:=List.mem_iff_getElem.1 hx
   rw[List.length_take]at hj
   have:=h2 j (by omega)
   rw[List.getElem_take]
   simpa using this
  ·rw[List.length_take];simp only[Int.ofNat_inj];omega
end Go.Proofs.YtobejhpigbllpaaGreatDoor.Am
