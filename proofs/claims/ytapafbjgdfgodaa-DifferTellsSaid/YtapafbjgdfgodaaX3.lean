/-
  What functions compute, and that they do. Printed by mkwalk.py.
  All walks. Printed by mkwalk.py.
  Plain laws: addresses, prefixes, endpoints: which may be, which is ahead.
  Plain laws: what the functions that split a text come to.
  Plain laws: texts without blanks at their ends, letters made small.
  Plain laws: two loops side by side; a text's lines with and without an end.
  Plain laws: runes of a text; one of two bytes in a text.
  Plain laws: lines of pairs; the law PairlineLines.
  Plain laws: the text of lines; the laws LinesSplit and LinesJoin.
  Plain laws: blocks of pairs; the laws PairlineBlocks, PairlineReads, PairlineMany.
  Plain laws: a number's digits; the text of an error.
  Plain laws: which configurations may be.
  The plain law of IniwriteSame.
  Plain laws: what makes one configuration another one (DifferTells).
  Plain laws: the patch of two configurations; DifferTells.
-/
import Derived.Test.YtapafbjgdfgodaaX2
section
set_option linter.unusedVariables false
set_option maxRecDepth 100000
set_option maxHeartbeats 4000000
namespace Go.Proofs.Ytapafbjgdfgodaa.Am
abbrev MB:Nat×D1:=(2000002, .ghost (.cp 2 0))
abbrev D0:Nat×D1:=(2000003, .ghost (.cp 3 0))
abbrev GZ:Nat×D1:=(1003, .cells [(1, .own 1006)])
abbrev JK:Nat×AI:=(1, .fnv (.func Bp) [] [3400320])
abbrev U9:Nat×D1:=(2200000, .ghost (.own 3002))
abbrev MA:Nat×D1:=(2200001, .ghost (.fnv (.func Bp) [] [3400320]))
abbrev IB:Nat×D1:=(3400320, .keep (.cp 1003 0))
abbrev Zw:Nat×D1:=(2300001, .ghost (.fnv (.func Bp) [] [3400320]))
abbrev GL:Nat×D1:=(3057, .row Ae .nil)
abbrev Eh:Nat×D1:=(2000004, .ghost (.cp 4 0))
abbrev Eg:Nat×D1:=(2000005, .ghost (.cp 5 0))
abbrev Wg:Nat×D1:=(2000041, .ghost (.own 1006))
abbrev GK:Nat×D1:=(2000006, .ghost (.own 1006))
abbrev P1:Nat×D1:=(2200000, .ghost (.own 2002))
def Dq(a0:GS UInt8)(a1:GS UInt8):Option Int:=some (NQ a0.l a1.l)
theorem Gk:Spec tb Cv [T.sl T.u8,T.sl T.u8] [T.int .i64] (fun a=>Dq a.1 a.2):=Spec.cmp rfl
noncomputable def HB(a0:AG):Option Bool:=if(decide (20<(a0.Peers.l.length:Int)))=true then some true else (iter (fun(s4:Int)=>if(decide (s4<(a0.Peers.l.length:Int)))=true then (Gg a0.Peers.l s4).bind fun x10=>if(decide (80<(x10.Allowed.l.length:Int)))=true then (some true).map fun r=> .inr (.inr r) else some (.inl (IntKind.i64.wrap (s4+1))) else some (.inr (.inl ()))) 0).bind (Sum.elim (fun(p5:Unit)=>some false) some)
noncomputable def O5(a:CP [Ad]):D2 tb Hn [Ad] [T.b] a:=Ai<|Au (B5 (t:=Ad) 1 r_ r_ Ah) fun _=>Al (AQ CM)<|At<|Ai<|Al (Ay Ah)<|Aq (Ax (t:=Ad) (u:=(BM (T.sl Ac))) Ah r_ r_ A5 r_ r_) fun x1=>Ap (C4 (AH Ah)) fun x2=>Ap (AK r_ Ah BA) fun x3=>Af<|Aa.cond Ah (Ai<|Al (AQ CM)<|Af<|Aa.ret (.one (Bk r_))) (Aa.skip<|At<|Ai<|Al (AQ BA)<|Af<|AE<|Aa.loop (id:=0) (σ:=Int) (τ:=Unit) (fun s4=>⟨[(1, .cp 1 0),(3, .val (T.int .i64) s4)],[(1, .cells [(35, .val Ad a)])]⟩) (fun p5=>⟨[],[]⟩) 0 sB (fun _=>r_) (fun s4=>Ai<|Ai<|Ag r_<|Al (Ay Ah)<|Aq (Ax (t:=Ad) (u:=(BM (T.sl Ac))) Ah r_ r_ A5 r_ r_) fun x6=>Ap (C4 (AH Ah)) fun x7=>Ap (AK r_ Ah Ah) fun x8=>Af<|Aa.cond Ah (Aa.skip<|At<|AE<|Ai<|Al (Ay Ah)<|Aq (Ax (t:=Ad) (u:=(BM (T.sl Ac))) Ah r_ r_ A5 r_ r_) fun x9=>Ag r_<|Aa.op (C0 r_ (AH Ah) Ah) fun x10=>Ix (JJ AU Ah) fun x11=>Aq (DF r_ r_ Ah) fun x12=>Ap (C4 (AH Ah)) fun x13=>Ap (AK r_ Ah BA) fun x14=>Af<|Aa.cond Ah (Ai<|Al (AQ CM)<|Af<|Bq<|Aa.ret (.one (Bk r_))) (Aa.skip<|AR<|Af<|Ag r_<|Ap (BR (I:=(IT.int .i64)) Ah BA) fun x15=>Ag r_<|AY x15 sB)) (Bb<|B1 () sB)) (fun p5=>Bc<|At<|Al (AQ CM)<|Af<|Aa.ret (.one (Bk r_))))
theorem K1:Spec tb DN [Ad] [T.b] (fun a=>HB a):=
 Spec.of RO r_ r_ r_ O5
noncomputable def G9(a0:Int):Option Bool:=(BS (decide (0≤a0)) (some (decide (a0≤65535)))).bind fun x3=>some x3
noncomputable def Nb(a:CP [(T.int .i64)]):D2 tb Gv [(T.int .i64)] [T.b] a:=Ai<|Al (AQ CM)<|At<|Ag r_<|Ap (AK r_ Ah BA) fun x1=>Ag r_<|Aa.and 2 r_ r_ r_ (A8 (AQ (IE r_))<|AJ (AK r_ Ah BA) fun x2=>AD.nil Ah) fun x3=>Ag r_<|Af<|Aa.ret (.one (Bk r_))
theorem JP:Spec tb Dt [(T.int .i64)] [T.b] (fun a=>G9 a):=
 Spec.of Qy r_ r_ r_ Nb
noncomputable def HP(a0:(Ar UInt8 4)):Option A9:=(if 0+4≤4 then Xz ((⟨4,(A1 16 T.u8).z⟩:A9).B) 0 16 ((a0.l.drop 0).take 4)else none).bind fun x5=>let x6:=({(⟨4,(A1 16 T.u8).z⟩:A9)with B:=x5});some x6
noncomputable def OF(a:CP [(A1 4 T.u8)]):D2 tb Hx [(A1 4 T.u8)] [Ao] a:=Ai<|Au (B5 (t:=(A1 4 T.u8)) 1 r_ r_ Ah) fun _=>Au (Bi (t:=Ao) 2 r_ r_) fun x1=>At<|Ap (Dy r_ r_ (.cons B3 r_ BA<| .nil _)) fun x2=>Au (Bi (t:=Ao) 3 r_ r_) fun x3=>Au (Be Ah Ah r_ r_ (A0 _) r_) fun x4=>At<|Aa.regd 1<|AL r_ (Ay Ah)<|AL r_ (NA (k:=0) (m:=16) r_ r_ Ah .none .none r_ r_ r_)<|AL r_ (NA (k:=0) (m:=4) r_ r_ Ah .none .none r_ r_ r_)<|HR r_ (fun _=> .nil) (.nil) (ZJ (c:=0+4≤4) fun hc=>YT (t:=T.u8) (s:=Ao) (o:=1) (k:=0) BU r_ Ah (ZE (o:=0) (k:=0) (m:=4) (n:=4) (A0 _) r_ Ah r_ r_ hc) r_ r_) fun x5=>Dk<|At<|Aq (Ax (t:=Ao) (u:=Ao) Ah r_ r_ (A0 _) r_ r_) fun x6=>Au (Be Ah Ah r_ r_ (A0 _) r_) fun x7=>Af<|Aa.ret (.one (FN r_ r_ r_ (A0 _) r_ r_))
theorem PO:Spec tb E6 [(A1 4 T.u8)] [Ao] (fun a=>HP a):=
 Spec.of RY r_ r_ r_ OF
noncomputable def EO(a0:A9):Option Bool:=(Ek (decide (a0.V=6)) ((BS (decide (a0.V=4)) (let x6:=(⟨(a0.B.l.drop 0).take 4,by rw[List.length_take,List.length_drop,Ar.len];rfl⟩:(Ar UInt8 4));(HP x6).bind fun x7=>some (Dw De a0 x7))).bind fun x9=>some x9)).bind fun x10=>some x10
noncomputable def Ng(a:CP [Ao]):D2 tb Gz [Ao] [T.b] a:=Ai<|Au (B5 (t:=Ao) 1 r_ r_ Ah) fun _=>Al (AQ CM)<|At<|Al (Ay Ah)<|Aq (Ax (t:=Ao) (u:=(T.int .i64)) Ah r_ r_ B3 r_ r_) fun x1=>Ap (AK r_ Ah BA) fun x2=>Ag r_<|Aa.or 12 r_ r_ r_ (A8 (Ay Ah)<|A6 (Ax (t:=Ao) (u:=(T.int .i64)) Ah r_ r_ B3 r_ r_) fun x3=>AJ (AK r_ Ah BA) fun x4=>A8 (AQ (IE r_))<|AD.and 7 r_ r_ r_ r_ r_ (A6 (Ax (t:=Ao) (u:=Ao) Ah r_ r_ (A0 _) r_ r_) fun x5=>A8 (Ay Ah)<|A8 (NA (k:=0) (m:=4) r_ r_ Ah .none (.some BA) r_ r_ r_)<|A8 (YI Ah r_)<|A6 (Ax (t:=Ao) (u:=(A1 4 T.u8)) Ah r_ r_ (GR BU (PC 16 T.u8 0 4 (by decide))) r_ r_) fun x6=>AD.op (AN PO (.one Ah)) fun x7=>AJ (Fy De r_ r_ Ah Ah) fun x8=>AD.nil Ah) fun x9=>AD.nil Ah) fun x10=>Ag r_<|Af<|Aa.ret (.one (Bk r_))
theorem FF:Spec tb CD [Ao] [T.b] (fun a=>EO a):=
 Spec.of Q2 r_ r_ r_ Ng
noncomputable def Iw(a0:A9):Option Int:=(EO a0).bind fun x2=>if(!x2)=true then some 0 else if(decide (a0.V=4))=true then some 32 else some 128
noncomputable def Nf(a:CP [Ao]):D2 tb Gy [Ao] [(T.int .i64)] a:=Ai<|Au (B5 (t:=Ao) 1 r_ r_ Ah) fun _=>Al (AQ BA)<|At<|AE<|Ai<|Aq (Ax (t:=Ao) (u:=Ao) Ah r_ r_ (A0 _) r_ r_) fun x1=>Aa.op (AN FF (.one Ah)) fun x2=>Ap (BI Ah) fun x3=>Ag r_<|Af<|Aa.cond Ah (Ai<|Al (AQ BA)<|Af<|Aa.ret (.one (Bk r_))) (Ai<|Al (Ay Ah)<|Aq (Ax (t:=Ao) (u:=(T.int .i64)) Ah r_ r_ B3 r_ r_) fun x4=>Ap (AK r_ Ah BA) fun x5=>Ag r_<|Af<|Aa.cond Ah (Ai<|Al (AQ BA)<|Af<|Aa.ret (.one (Bk r_))) (Aa.skip<|AR<|At<|Al (AQ BA)<|Af<|Aa.ret (.one (Bk r_))))
theorem O0:Spec tb Ea [Ao] [(T.int .i64)] (fun a=>Iw a):=
 Spec.of Q1 r_ r_ r_ Nf
noncomputable def JB(a0:A9)(a1:Int):Option A9:=(EO a0).bind fun x3=>if(!x3)=true then some (⟨0,(A1 16 T.u8).z⟩:A9) else (iter (fun(s7:(Int×A9))=>if(decide (s7.1<16))=true then let x11:=IntKind.i64.wrap (a1-IntKind.i64.wrap (8*s7.1));let x13:=if 8<if 0>x11 then 0 else x11 then 8 else if 0>x11 then 0 else x11;(if(decide (a1<0))=true then some (.inl 0) else some (.inl x13):Option (Int⊕_)).bind (Sum.elim (fun(p15:Int)=>(EM 16 s7.1).bind fun x17=>(s7.2.B.l[x17]?).bind fun x18=>(if((Rg (IntKind.i64.wrap (8-p15))).toNat:Int)<0 then none else some (Rf (((255:UInt8).toNat:Int)*2^(min ((Rg (IntKind.i64.wrap (8-p15))).toNat:Int).toNat 8)))).bind fun x21=>let x22:=Rf (Wp .and .u8 (x18.toNat:Int) (x21.toNat:Int));(EM 16 s7.1).bind fun x23=>(if x23<16 then some ({s7.2 with B:=s7.2.B.set x23 x22})else none).bind fun x24=>some (.inl (IntKind.i64.wrap (s7.1+1),x24))) some) else some (.inr (.inl s7.2))) (0,a0)).bind (Sum.elim (fun(p8:A9)=>some p8) some)
noncomputable def OD(a:CP [Ao,(T.int .i64)]):D2 tb Hv [Ao,(T.int .i64)] [Ao] a:=Ai<|Au (B5 (t:=Ao) 2 r_ r_ Ah) fun _=>Au (Bi (t:=Ao) 4 r_ r_) fun x1=>At<|Ai<|Aq (Ax (t:=Ao) (u:=Ao) Ah r_ r_ (A0 _) r_ r_) fun x2=>Aa.op (AN FF (.one Ah)) fun x3=>Ap (BI Ah) fun x4=>Af<|Aa.cond Ah (Ai<|Ap (Dy r_ r_ (.nil _)) fun x5=>Au (Be Ah Ah r_ r_ (A0 _) r_) fun x6=>Af<|Aa.ret (.one (FN r_ r_ r_ (A0 _) r_ r_))) (Aa.skip<|At<|Ai<|Al (AQ BA)<|Af<|AE<|Aa.loop (id:=0) (σ:=(Int×A9)) (τ:=A9) (fun s7=>⟨[(1, .val (T.int .i64) a.2),(2, .cp 2 0),(4, .cp 4 0),(11, .val (T.int .i64) s7.1)],[(2, .cells [(17, .val Ao s7.2)]),(4, .cells [(17, .val Ao x1)])]⟩) (fun p8=>⟨[(2, .cp 2 0),(4, .cp 4 0)],[(2, .cells [(17, .val Ao p8)]),(4, .cells [(17, .val Ao x1)])]⟩) (0,a.1) sB (fun _=>r_) (fun s7=>Ai<|Ap (AK r_ Ah BA) fun x9=>At<|Aa.cond Ah (Aa.skip<|At<|AE<|Ai<|Ag r_<|Ag r_<|At<|Ag r_<|Ag r_<|Ap (Zs (I:=(IT.int .i64)) BA Ah) fun x10=>Ap (R7 (I:=(IT.int .i64)) Ah Ah) fun x11=>Ap (XS (I:=(IT.int .i64)) (mx:=true) Ah BA) fun x12=>Ap (XS (I:=(IT.int .i64)) (mx:=false) Ah BA) fun x13=>Ag r_<|At<|Ai<|Ag r_<|Ap (AK r_ Ah BA) fun x14=>Af<|CA (τ:=Int) (fun p15=>⟨[(1, .val (T.int .i64) a.2),(2, .cp 2 0),(4, .cp 4 0),(5, .val (T.int .i64) s7.1),(6, .val (T.int .i64) p15),(11, .val (T.int .i64) s7.1)],[(2, .cells [(17, .val Ao s7.2)]),(4, .cells [(17, .val Ao x1)])]⟩) (fun p15=>Af<|Ag r_<|Al (Ay Ah)<|Aa.op (H4 Ah Ah) fun x17=>Aa.op (Mf BU r_ r_ Ah r_ r_) fun x18=>Ag r_<|Ap (R7 (I:=(IT.int .i64)) BA Ah) fun x19=>Ap (VQ (I:=(IT.int .i64)) (J:=IT.u64) r_ Ah) fun x20=>
 Aa.op (Zr (I:=IT.u8) (J:=IT.u64) (Xo 255 r_) Ah) fun x21=>Ap (Zu (I:=IT.u8) Ah Ah) fun x22=>Al (Ay Ah)<|Aa.op (H4 Ah Ah) fun x23=>Ej (XX (s:=Ao) BU r_ Ah Ah r_ r_) fun x24=>AR<|Af<|Ap (BR (I:=(IT.int .i64)) Ah BA) fun x25=>Ag r_<|AY (x25,x24) sB)<|Aa.cond Ah (Al (AQ BA)<|Cw 0 sB) (Aa.skip<|Cw x13 sB)) (Bb<|B1 s7.2 sB)) (fun p8=>Bc<|At<|Aq (Ax (t:=Ao) (u:=Ao) Ah r_ r_ (A0 _) r_ r_) fun x26=>Au (Be Ah Ah r_ r_ (A0 _) r_) fun x27=>Af<|Aa.ret (.one (FN r_ r_ r_ (A0 _) r_ r_))))
theorem PM:Spec tb E4 [Ao,(T.int .i64)] [Ao] (fun a=>JB a.1 a.2):=
 Spec.of RW r_ r_ r_ OD
noncomputable def Q6(a0:A9)(a1:Int):Option (Aw×Int):=(EO a0).bind fun x3=>if(!x3)=true then some ((⟨Ao.z,0⟩:Aw),1) else (Ek (decide (a1<0)) ((Iw a0).bind fun x9=>some (decide (x9<a1)))).bind fun x11=>if x11=true then some ((⟨Ao.z,0⟩:Aw),6) else (JB a0 a1).bind fun x15=>some ((⟨x15,a1⟩:Aw),0)
noncomputable def QS(a:CP [Ao,(T.int .i64)]):D2 tb J7 [Ao,(T.int .i64)] [An,(T.int .i64)] a:=Ai<|Au (B5 (t:=Ao) 2 r_ r_ Ah) fun _=>Au (Bi (t:=An) 4 r_ r_) fun x1=>Al (AQ BA)<|At<|AE<|Ai<|Aq (Ax (t:=Ao) (u:=Ao) Ah r_ r_ (A0 _) r_ r_) fun x2=>Aa.op (AN FF (.one Ah)) fun x3=>Ap (BI Ah) fun x4=>Ag r_<|Af<|Aa.cond Ah (Ai<|Ap (Dy r_ r_ (.nil _)) fun x5=>Au (Be Ah Ah r_ r_ (A0 _) r_) fun x6=>Al (AQ BA)<|Af<|Aa.ret (.cons (FN r_ r_ r_ (A0 _) r_ r_)<| .one (Bk r_))) (Ai<|Ag r_<|Ap (AK r_ Ah BA) fun x7=>Ag r_<|Aa.or 4 r_ r_ r_ (A8 (AQ (IE r_))<|A6 (Ax (t:=Ao) (u:=Ao) Ah r_ r_ (A0 _) r_ r_) fun x8=>AD.op (AN O0 (.one Ah)) fun x9=>AJ (AK r_ Ah Ah) fun x10=>AD.nil Ah) fun x11=>Ag r_<|Af<|Aa.cond Ah (Ai<|Ap (Dy r_ r_ (.nil _)) fun x12=>Au (Be Ah Ah r_ r_ (A0 _) r_) fun x13=>Al (AQ BA)<|Af<|Aa.ret (.cons (FN r_ r_ r_ (A0 _) r_ r_)<| .one (Bk r_))) (Aa.skip<|AR<|At<|Aq (Ax (t:=Ao) (u:=Ao) Ah r_ r_ (A0 _) r_ r_) fun x14=>Ag r_<|Aa.op (AN PM (.cons Ah<| .one Ah)) fun x15=>Ag r_<|Ap (Dy r_ r_ (.cons B2 r_ Ah<| .cons BT r_ Ah<| .nil _)) fun x16=>Au (Be Ah Ah r_ r_ (A0 _) r_) fun x17=>Al (AQ BA)<|Af<|Aa.ret (.cons (FN r_ r_ r_ (A0 _) r_ r_)<| .one (Bk r_))))
theorem Sv:Spec tb F5 [Ao,(T.int .i64)] [An,(T.int .i64)] (fun a=>Q6 a.1 a.2):=
 Spec.of U6 r_ r_ r_ QS
noncomputable def GM(a0:Aw):Option Bool:=(Q6 a0.A a0.Bits).bind fun x3=>(BS (decide (x3.2=0)) (some (Dw BZ x3.1 a0))).bind fun x12=>some x12
noncomputable def Nd(a:CP [An]):D2 tb Gx [An] [T.b] a:=Ai<|Au (B5 (t:=An) 1 r_ r_ Ah) fun _=>Al (AQ CM)<|At<|Al (Ay Ah)<|Aq (Ax (t:=An) (u:=Ao) Ah r_ r_ B2 r_ r_) fun x1=>Al (Ay Ah)<|Aq (Ax (t:=An) (u:=(T.int .i64)) Ah r_ r_ BT r_ r_) fun x2=>Aa.op (TJ Sv (.cons Ah<| .one Ah)) fun x3=>Ag r_<|Aq (Gh Ah r_) fun x4=>Aq (Gh Ah r_) fun x5=>Au (Bi (t:=An) 3 r_ r_) fun x6=>Au (Be Ah Ah r_ r_ (A0 _) r_) fun x7=>Ag r_<|At<|Ag r_<|Ap (AK r_ Ah BA) fun x8=>Ag r_<|Aa.and 3 r_ r_ r_ (A6 (Ax (t:=An) (u:=An) Ah r_ r_ (A0 _) r_ r_) fun x9=>A6 (Ax (t:=An) (u:=An) Ah r_ r_ (A0 _) r_ r_) fun x10=>AJ (Fy BZ r_ r_ Ah Ah) fun x11=>AD.nil Ah) fun x12=>Ag r_<|Af<|Aa.ret (.one (Bk r_))
theorem Oz:Spec tb DZ [An] [T.b] (fun a=>GM a):=
 Spec.of Q0 r_ r_ r_ Nd
noncomputable def FL(a0:(GS UInt8))(a1:(GS UInt8)):Option Int:=(Dq a0 a1).bind fun x1=>some x1
noncomputable def K7(a:CP [(T.sl T.u8),(T.sl T.u8)]):D2 tb EI [(T.sl T.u8),(T.sl T.u8)] [(T.int .i64)] a:=Ai<|Al (AQ BA)<|At<|Ag r_<|Ag r_<|Aa.op (AN Gk (.cons Ah<| .one Ah)) fun x1=>Ag r_<|Af<|Aa.ret (.one (Bk r_))
theorem Lx:Spec tb Db [(T.sl T.u8),(T.sl T.u8)] [(T.int .i64)] (fun a=>FL a.1 a.2):=
 Spec.of M9 r_ r_ r_ K7
noncomputable def JC(a0:A9)(a1:A9):Option Bool:=if(!decide (a0.V=a1.V))=true then some (decide (a0.V<a1.V)) else (if 0+16≤16∧0+16≤16 then FL (GS.mk ((a0.B.l.drop 0).take 16)) (GS.mk ((a1.B.l.drop 0).take 16))else none).bind fun x7=>some (decide (x7<0))
noncomputable def OE(a:CP [Ao,Ao]):D2 tb Hw [Ao,Ao] [T.b] a:=Ai<|Au (B5 (t:=Ao) 2 r_ r_ Ah) fun _=>Au (B5 (t:=Ao) 3 r_ r_ Ah) fun _=>Al (AQ CM)<|At<|Ai<|Al (Ay Ah)<|Aq (Ax (t:=Ao) (u:=(T.int .i64)) Ah r_ r_ B3 r_ r_) fun x1=>Al (Ay Ah)<|Aq (Ax (t:=Ao) (u:=(T.int .i64)) Ah r_ r_ B3 r_ r_) fun x2=>Ap (AK r_ Ah Ah) fun x3=>Af<|Aa.cond Ah (Ai<|Al (Ay Ah)<|Aq (Ax (t:=Ao) (u:=(T.int .i64)) Ah r_ r_ B3 r_ r_) fun x4=>Al (Ay Ah)<|Aq (Ax (t:=Ao) (u:=(T.int .i64)) Ah r_ r_ B3 r_ r_) fun x5=>Ap (AK r_ Ah Ah) fun x6=>Ag r_<|Af<|Aa.ret (.one (Bk r_))) (Aa.skip<|At<|Al (Ay Ah)<|Al (NA (k:=0) (m:=16) r_ r_ Ah .none .none r_ r_ r_)<|Al (Ay Ah)<|Al (NA (k:=0) (m:=16) r_ r_ Ah .none .none r_ r_ r_)<|Aa.op (U3 (c:=0+16≤16∧0+16≤16) Lx (.cons VX .nil) (fun hc=> .cons (ZQ (o:=1) (k:=0) (m:=16) (n:=16) BU r_ Ah r_ r_ hc.1)<| .one (ZQ (o:=1) (k:=0) (m:=16) (n:=16) BU r_ Ah r_ r_ hc.2))) fun x7=>Ap (AK r_ Ah BA) fun x8=>Ag r_<|Af<|Aa.ret (.one (Bk r_)))
theorem PN:Spec tb E5 [Ao,Ao] [T.b] (fun a=>JC a.1 a.2):=
 Spec.of RX r_ r_ r_ OE
noncomputable def HM(a0:Aw)(a1:Aw):Option Bool:=if(Dw De a0.A a1.A)=true then some (decide (a0.Bits<a1.Bits)) else (JC a0.A a1.A).bind fun x9=>some x9
noncomputable def OC(a:CP [An,An]):D2 tb Hu [An,An] [T.b] a:=Ai<|Au (B5 (t:=An) 2 r_ r_ Ah) fun _=>Au (B5 (t:=An) 3 r_ r_ Ah) fun _=>Al (AQ CM)<|At<|Ai<|Al (Ay Ah)<|Aq (Ax (t:=An) (u:=Ao) Ah r_ r_ B2 r_ r_) fun x1=>Al (Ay Ah)<|Aq (Ax (t:=An) (u:=Ao) Ah r_ r_ B2 r_ r_) fun x2=>Ap (Fy De r_ r_ Ah Ah) fun x3=>Af<|Aa.cond Ah (Ai<|Al (Ay Ah)<|Aq (Ax (t:=An) (u:=(T.int .i64)) Ah r_ r_ BT r_ r_) fun x4=>Al (Ay Ah)<|Aq (Ax (t:=An) (u:=(T.int .i64)) Ah r_ r_ BT r_ r_) fun x5=>Ap (AK r_ Ah Ah) fun x6=>Ag r_<|Af<|Aa.ret (.one (Bk r_))) (Aa.skip<|At<|Al (Ay Ah)<|Aq (Ax (t:=An) (u:=Ao) Ah r_ r_ B2 r_ r_) fun x7=>Al (Ay Ah)<|Aq (Ax (t:=An) (u:=Ao) Ah r_ r_ B2 r_ r_) fun x8=>Aa.op (AN PN (.cons Ah<| .one Ah)) fun x9=>Ag r_<|Af<|Aa.ret (.one (Bk r_)))
theorem PL:Spec tb E3 [An,An] [T.b] (fun a=>HM a.1 a.2):=
 Spec.of RV r_ r_ r_ OC
noncomputable def Ha(a0:(GS Aw)):Option Bool:=(iter (fun(s2:Int)=>if(decide (s2<(a0.l.length:Int)))=true then (Gg a0.l s2).bind fun x5=>(GM x5).bind fun x10=>(Ek (!x10) ((BS (decide (0<s2)) ((Gg a0.l (IntKind.i64.wrap (s2-1))).bind fun x14=>(HM x14 x5).bind fun x17=>some (!x17))).bind fun x19=>some x19)).bind fun x20=>if x20=true then (some false).map fun r=> .inr (.inr r) else some (.inl (IntKind.i64.wrap (s2+1))) else some (.inr (.inl ()))) 0).bind (Sum.elim (fun(p3:Unit)=>some true) some)
noncomputable def Mv(a:CP [(T.sl An)]):D2 tb FJ [(T.sl An)] [T.b] a:=Ai<|Al (AQ CM)<|At<|Ai<|Ag r_<|Ap (C4 Ah) fun x1=>Al (AQ BA)<|Af<|AE<|Aa.loop (id:=0) (σ:=Int) (τ:=Unit) (fun s2=>⟨[(0, .val (T.sl An) a),(5, .val (T.sl An) a),(6, .val (T.int .i64) x1),(7, .val (T.int .i64) s2)],[]⟩) (fun p3=>⟨[],[]⟩) 0 sB (fun _=>r_) (fun s2=>Ai<|Ap (AK r_ Ah Ah) fun x4=>At<|Aa.cond Ah (Aa.skip<|At<|AE<|Ai<|Ag r_<|Aa.op (C0 r_ Ah Ah) fun x5=>Aq (DF r_ r_ Ah) fun x6=>Au (Bi (t:=An) 4 r_ r_) fun x7=>Ag r_<|Au (Be Ah Ah r_ r_ (A0 _) r_) fun x8=>At<|Aq (Ax (t:=An) (u:=An) Ah r_ r_ (A0 _) r_ r_) fun x9=>Aa.op (AN Oz (.one Ah)) fun x10=>Ap (BI Ah) fun x11=>Ag r_<|Aa.or 12 r_ r_ r_ (A8 (AQ (IE r_))<|AJ (AK r_ Ah BA) fun x12=>A8 (AQ (IE r_))<|AD.and 8 r_ r_ r_ r_ r_ (A8 (AQ (IE r_))<|A8 (AQ (IE r_))<|AJ (R7 (I:=(IT.int .i64)) Ah BA) fun x13=>AD.op (C0 r_ Ah Ah) fun x14=>A6 (DF r_ r_ Ah) fun x15=>A6 (Ax (t:=An) (u:=An) Ah r_ r_ (A0 _) r_ r_) fun x16=>AD.op (AN PL (.cons Ah<| .one Ah)) fun x17=>AJ (BI Ah) fun x18=>AD.nil Ah) fun x19=>AD.nil Ah) fun x20=>Af<|Aa.cond Ah (Ai<|Al (AQ CM)<|Af<|Bq<|Aa.ret (.one (Bk r_))) (Aa.skip<|AR<|Af<|Ap (BR (I:=(IT.int .i64)) Ah BA) fun x21=>Ag r_<|AY x21 sB)) (Bb<|B1 () sB)) (fun p3=>Bc<|At<|Al (AQ CM)<|Af<|Aa.ret (.one (Bk r_)))
theorem MZ:Spec tb D7 [(T.sl An)] [T.b] (fun a=>Ha a):=
 Spec.of OK r_ r_ r_ Mv
noncomputable def CC(a0:AP):Option Bool:=let x3:=(Dw Bh a0 (⟨Ao.z,0⟩:AP));some x3
noncomputable def K5(a:CP [Az]):D2 tb EG [Az] [T.b] a:=Ai<|Au (B5 (t:=Az) 1 r_ r_ Ah) fun _=>Al (AQ CM)<|At<|Aq (Ax (t:=Az) (u:=Az) Ah r_ r_ (A0 _) r_ r_) fun x1=>Ap (Dy r_ r_ (.nil _)) fun x2=>Ap (Fy Bh r_ r_ Ah Ah) fun x3=>Ag r_<|Af<|Aa.ret (.one (Bk r_))
theorem Ev:Spec tb BY [Az] [T.b] (fun a=>CC a):=
 Spec.of M6 r_ r_ r_ K5
noncomputable def D5(a0:AP):Option Bool:=(EO a0.A).bind fun x2=>(BS x2 (some (decide (1≤a0.Port)))).bind fun x5=>(BS x5 (some (decide (a0.Port≤65535)))).bind fun x8=>some x8
noncomputable def Kd(a:CP [Az]):D2 tb E8 [Az] [T.b] a:=Ai<|Au (B5 (t:=Az) 1 r_ r_ Ah) fun _=>Al (AQ CM)<|At<|Al (Ay Ah)<|Aq (Ax (t:=Az) (u:=Ao) Ah r_ r_ HS r_ r_) fun x1=>Aa.op (AN FF (.one Ah)) fun x2=>Ag r_<|Aa.and 3 r_ r_ r_ (A8 (Ay Ah)<|A6 (Ax (t:=Az) (u:=(T.int .i64)) Ah r_ r_ D3 r_ r_) fun x3=>AJ (AK r_ Ah BA) fun x4=>AD.nil Ah) fun x5=>Ag r_<|Aa.and 3 r_ r_ r_ (A8 (Ay Ah)<|A6 (Ax (t:=Az) (u:=(T.int .i64)) Ah r_ r_ D3 r_ r_) fun x6=>AJ (AK r_ Ah BA) fun x7=>AD.nil Ah) fun x8=>Ag r_<|Af<|Aa.ret (.one (Bk r_))
theorem K4:Spec tb CG [Az] [T.b] (fun a=>D5 a):=
 Spec.of LH r_ r_ r_ Kd
noncomputable def GA(a0:AG):Option Bool:=(G9 a0.Port).bind fun x2=>(Ek (!x2) (some (decide (16<(a0.Peers.l.length:Int))))).bind fun x7=>if x7=true then some false else let x8:=(⟨[0,0,0,0,0,0,0,0,0,0,0,0,0,0,0,0,0,0,0,0,0,0,0,0,0,0,0,0,0,0,0,0],rfl⟩:(Ar UInt8 32));let x9:=H3 (κ:=(Ar UInt8 32)) (ν:=Bool) Br ([]:List ((Ar UInt8 32)×Bool)) x8 true;(iter (fun(s12:(Int×(List ((Ar UInt8 32)×Bool))×(List (Aw×Bool))))=>if(decide (s12.1<(a0.Peers.l.length:Int)))=true then (Gg a0.Peers.l s12.1).bind fun x15=>let x20:=(Fb (κ:=(Ar UInt8 32)) (ν:=Bool) Br s12.2.1 x15.Key).getD false;(Ek x20 ((G9 x15.Keep).bind fun x22=>some (!x22))).bind fun x24=>(Ek x24 ((Ha x15.Allowed).bind fun x26=>some (!x26))).bind fun x28=>if x28=true then (some false).map fun r=> .inr (.inr r) else (CC x15.End).bind fun x30=>(BS (!x30) ((D5 x15.End).bind fun x33=>some (!x33))).bind fun x35=>if x35=true then (some false).map fun r=> .inr (.inr r) else let x37:=H3 (κ:=(Ar UInt8 32)) (ν:=Bool) Br s12.2.1 x15.Key true;(iter (fun(s40:(Int×(List (Aw×Bool))))=>if(decide (s40.1<(x15.Allowed.l.length:Int)))=true then (Gg x15.Allowed.l s40.1).bind fun x43=>let x48:=(Fb (κ:=Aw) (ν:=Bool) Ed s40.2 x43).getD false;if x48=true then ((some false).map fun r=> .inr (.inr r)).map fun r=> .inr (.inr r) else let x50:=H3 (κ:=Aw) (ν:=Bool) Ed s40.2 x43 true;some (.inl (IntKind.i64.wrap (s40.1+1),x50)) else some (.inr (.inl s40.2))) (0,s12.2.2)).bind (Sum.elim (fun(p41:(List (Aw×Bool)))=>some (.inl (IntKind.i64.wrap (s12.1+1),x37,p41))) some)
 else some (.inr (.inl s12.2.2))) (0,x9,([]:List (Aw×Bool)))).bind (Sum.elim (fun(p13:(List (Aw×Bool)))=>some (decide ((p13.length:Int)≤64))) some)
noncomputable def Nc(a:CP [Ad]):D2 tb Gw [Ad] [T.b] a:=Ai<|Au (B5 (t:=Ad) 1 r_ r_ Ah) fun _=>Al (AQ CM)<|At<|Ai<|Al (Ay Ah)<|Aq (Ax (t:=Ad) (u:=(T.int .i64)) Ah r_ r_ BL r_ r_) fun x1=>Aa.op (AN JP (.one Ah)) fun x2=>Ap (BI Ah) fun x3=>Ag r_<|Aa.or 4 r_ r_ r_ (A8 (Ay Ah)<|A6 (Ax (t:=Ad) (u:=(BM (T.sl Ac))) Ah r_ r_ A5 r_ r_) fun x4=>AJ (C4 (AH Ah)) fun x5=>AJ (AK r_ Ah BA) fun x6=>AD.nil Ah) fun x7=>Af<|Aa.cond Ah (Ai<|Al (AQ CM)<|Af<|Aa.ret (.one (Bk r_))) (Aa.skip<|At<|Au (Sm (K:=(A1 32 T.u8)) (V:=T.b) 1019 r_) fun _=>Aq (Qv (t:=T.u8) (⟨[0,0,0,0,0,0,0,0,0,0,0,0,0,0,0,0,0,0,0,0,0,0,0,0,0,0,0,0,0,0,0,0],r_⟩:(Ar UInt8 32)) r_ (.nil _)) fun x8=>Au (PA (K:=(A1 32 T.u8)) (V:=T.b) ⟨_,(Ba 32 Bg.u8), .inl ⟨r_,r_⟩⟩ Ah r_ Ah CM) fun x9=>Ag r_<|Au (Sm (K:=An) (V:=T.b) 1022 r_) fun _=>Ag r_<|Ag r_<|At<|Ai<|Al (Ay Ah)<|Aq (Ax (t:=Ad) (u:=(BM (T.sl Ac))) Ah r_ r_ A5 r_ r_) fun x10=>Ap (C4 (AH Ah)) fun x11=>Al (AQ BA)<|Af<|AE<|Aa.loop (id:=0) (σ:=(Int×(List ((Ar UInt8 32)×Bool))×(List (Aw×Bool)))) (τ:=(List (Aw×Bool))) (fun s12=>⟨[(3, .own 1019),(4, .own 1022),(24, .val (BM (T.sl Ac)) x10),(25, .val (T.int .i64) x11),(26, .val (T.int .i64) s12.1)],[(1019, .dom (Cd (A1 32 T.u8) T.b) s12.2.1),(1022, .dom (Cd An T.b) s12.2.2)]⟩) (fun p13=>⟨[(4, .own 1022)],[(1022, .dom (Cd An T.b) p13)]⟩) (0,x9,([]:List (Aw×Bool))) sB (fun _=>r_) (fun s12=>Ai<|Ap (AK r_ Ah Ah) fun x14=>At<|Aa.cond Ah (Aa.skip<|At<|AE<|Ai<|Aa.op (C0 r_ (AH Ah) Ah) fun x15=>Aq (DF r_ r_ Ah) fun x16=>Au (Bi (t:=Ac) 6 r_ r_) fun x17=>
 Au (Be Ah Ah r_ r_ (A0 _) r_) fun x18=>At<|Ai<|Ag r_<|Al (Ay Ah)<|Aq (Ax (t:=Ac) (u:=(A1 32 T.u8)) Ah r_ r_ AF r_ r_) fun x19=>Ap (VP (K:=(A1 32 T.u8)) (V:=T.b) ⟨_,(Ba 32 Bg.u8), .inl ⟨r_,r_⟩⟩ (.inr ⟨r_,r_⟩) Ah r_ Ah) fun x20=>Ag r_<|Aa.or 4 r_ r_ r_ (A8 (Ay Ah)<|A6 (Ax (t:=Ac) (u:=(T.int .i64)) Ah r_ r_ BK r_ r_) fun x21=>AD.op (AN JP (.one Ah)) fun x22=>AJ (BI Ah) fun x23=>AD.nil Ah) fun x24=>Ag r_<|Aa.or 4 r_ r_ r_ (A8 (Ay Ah)<|A6 (Ax (t:=Ac) (u:=(BM (T.sl An))) Ah r_ r_ AU r_ r_) fun x25=>AD.op (AN MZ (.one (AH Ah))) fun x26=>AJ (BI Ah) fun x27=>AD.nil Ah) fun x28=>Af<|Aa.cond Ah (Ai<|Al (AQ CM)<|Af<|Bq<|Aa.ret (.one (Bk r_))) (Aa.skip<|At<|Ai<|Al (Ay Ah)<|Aq (Ax (t:=Ac) (u:=Az) Ah r_ r_ Bf r_ r_) fun x29=>Aa.op (AN Ev (.one Ah)) fun x30=>Ap (BI Ah) fun x31=>Ag r_<|Aa.and 4 r_ r_ r_ (A8 (Ay Ah)<|A6 (Ax (t:=Ac) (u:=Az) Ah r_ r_ Bf r_ r_) fun x32=>AD.op (AN K4 (.one Ah)) fun x33=>AJ (BI Ah) fun x34=>AD.nil Ah) fun x35=>Af<|Aa.cond Ah (Ai<|Al (AQ CM)<|Af<|Bq<|Aa.ret (.one (Bk r_))) (Aa.skip<|At<|Ag r_<|Al (Ay Ah)<|Aq (Ax (t:=Ac) (u:=(A1 32 T.u8)) Ah r_ r_ AF r_ r_) fun x36=>Au (PA (K:=(A1 32 T.u8)) (V:=T.b) ⟨_,(Ba 32 Bg.u8), .inl ⟨r_,r_⟩⟩ Ah r_ Ah CM) fun x37=>At<|Al (Ay Ah)<|Aq (Ax (t:=Ac) (u:=(BM (T.sl An))) Ah r_ r_ AU r_ r_) fun x38=>Ap (C4 (AH Ah)) fun x39=>Al (AQ BA)<|Af<|AE<|Aa.loop (id:=2) (σ:=(Int×(List (Aw×Bool)))) (τ:=(List (Aw×Bool))) (fun s40=>⟨[(3, .own 1019),(4, .own 1022),(24, .val (BM (T.sl Ac)) x10),(25, .val (T.int .i64) x11),(26, .val (T.int .i64) s12.1),(60, .val (BM (T.sl An)) x38),(61, .val (T.int .i64) x39),(62, .val (T.int .i64) s40.1)],[(1019, .dom (Cd (A1 32 T.u8) T.b) x37),(1022, .dom (Cd An T.b) s40.2)]⟩) (fun p41=>⟨[(3, .own 1019),(4, .own 1022),(24, .val (BM (T.sl Ac)) x10),(25, .val (T.int .i64) x11),(26, .val (T.int .i64) s12.1)],[(1019, .dom (Cd (A1 32 T.u8) T.b) x37),(1022, .dom (Cd An T.b) p41)]⟩) (0,s12.2.2) sB (fun _=>r_) (fun s40=>
 Ai<|Ap (AK r_ Ah Ah) fun x42=>At<|Aa.cond Ah (Aa.skip<|At<|AE<|Ai<|Aa.op (C0 r_ (AH Ah) Ah) fun x43=>Aq (DF r_ r_ Ah) fun x44=>Au (Bi (t:=An) 8 r_ r_) fun x45=>Au (Be Ah Ah r_ r_ (A0 _) r_) fun x46=>At<|Ai<|Ag r_<|Aq (Ax (t:=An) (u:=An) Ah r_ r_ (A0 _) r_ r_) fun x47=>Ap (VP (K:=An) (V:=T.b) ⟨_,BZ, .inl ⟨r_,r_⟩⟩ (.inr ⟨r_,r_⟩) Ah r_ Ah) fun x48=>Af<|Aa.cond Ah (Ai<|Al (AQ CM)<|Af<|Bq<|Bq<|Aa.ret (.one (Bk r_))) (Aa.skip<|Af<|Ag r_<|Aq (Ax (t:=An) (u:=An) Ah r_ r_ (A0 _) r_ r_) fun x49=>Au (PA (K:=An) (V:=T.b) ⟨_,BZ, .inl ⟨r_,r_⟩⟩ Ah r_ Ah CM) fun x50=>AR<|Af<|Ap (BR (I:=(IT.int .i64)) Ah BA) fun x51=>Ag r_<|AY (x51,x50) sB)) (Bb<|B1 s40.2 sB)) (fun p41=>Bc<|AR<|Af<|Ap (BR (I:=(IT.int .i64)) Ah BA) fun x52=>Ag r_<|AY (x52,x37,p41) sB)))) (Bb<|B1 s12.2.2 sB)) (fun p13=>Bc<|At<|Ag r_<|Ap (YJ (K:=An) (V:=T.b) Ah r_) fun x53=>Ap (AK r_ Ah BA) fun x54=>Ag r_<|Af<|Aa.ret (.one (Bk r_))))
theorem JQ:Spec tb Du [Ad] [T.b] (fun a=>GA a):=
 Spec.of Qz r_ r_ r_ Nc
noncomputable def E7(a0:AG)(a1:AG):Option Bool:=((iter (fun(s5:(Int×(List ((Ar UInt8 32)×Aj))))=>if(decide (s5.1<(a1.Peers.l.length:Int)))=true then (Gg a1.Peers.l s5.1).bind fun x8=>let x14:=H3 (κ:=(Ar UInt8 32)) (ν:=Aj) Br s5.2 x8.Key x8;some (.inl (IntKind.i64.wrap (s5.1+1),x14)) else some (.inr (.inl s5.2))) (0,([]:List ((Ar UInt8 32)×Aj)))).bind (Sum.elim (fun(p6:(List ((Ar UInt8 32)×Aj)))=>some p6) some):Option (List ((Ar UInt8 32)×Aj))).bind (fun(p2:(List ((Ar UInt8 32)×Aj)))=>((if a0.Peers.isN=true then some .nil else (MS 144 (GS.mk []) a0.Peers.l).bind fun x22=>some x22:Option (GS Aj)).bind (fun(p19:(GS Aj))=>(((iter (fun(s26:Int)=>if(decide (s26<(p19.l.length:Int)))=true then (EM p19.l.length s26).bind fun x29=>(p19.l[x29]?.map fun x=>x).bind fun x30=>(let x33:=Fb (κ:=(Ar UInt8 32)) (ν:=Aj) Br p2 x30.Key;some (!x33.isSome):Option Bool).bind (fun(p31:Bool)=>if p31=true then (some s26).map fun r=> .inr (.inr r) else some (.inl (IntKind.i64.wrap (s26+1)))) else some (.inr (.inl ()))) 0).bind (Sum.elim (fun(p27:Unit)=>some (-1)) some):Option Int).bind (fun(p24:Int)=>if(decide (p24=(-1)))=true then some p19 else (iter (fun(s42:(Int×Int×(GS Aj)))=>if(decide (s42.2.1<(s42.2.2.l.length:Int)))=true then (EM s42.2.2.l.length s42.2.1).bind fun x46=>(s42.2.2.l[x46]?.map fun x=>x).bind fun x47=>(let x53:=Fb (κ:=(Ar UInt8 32)) (ν:=Aj) Br p2 x47.Key;some (!x53.isSome):Option Bool).bind (fun(p51:Bool)=>if(!p51)=true then (EM s42.2.2.l.length s42.1).bind fun x61=>(s42.2.2.l[x61]?.map fun y=>s42.2.2.set x61 x47).bind fun x62=>
 some (.inl (IntKind.i64.wrap (s42.1+1),IntKind.i64.wrap (s42.2.1+1),x62)) else some (.inl (s42.1,IntKind.i64.wrap (s42.2.1+1),s42.2.2))) else some (.inr (.inl (s42.1,s42.2.2)))) (p24,IntKind.i64.wrap (p24+1),p19)).bind (Sum.elim (fun(p43:(Int×(GS Aj)))=>(Se Ac.z p43.2 p43.1).bind fun x66=>(XM x66 none (some p43.1)).bind fun x67=>some x67) some)):Option (GS Aj)).bind (fun(p23:(GS Aj))=>some p23)):Option (GS Aj)).bind (fun(p17:(GS Aj))=>let x71:=decide ((a1.Peers.l.length:Int)<(p17.l.length:Int));if x71=true then some false else (iter (fun(s73:Int)=>if(decide (s73<(p17.l.length:Int)))=true then (Gg p17.l s73).bind fun x76=>(Gg a1.Peers.l s73).bind fun x81=>(Ek (!(Dw (Ba 32 Bg.u8) x81.Key x76.Key)) ((CC x76.End).bind fun x87=>(BS (!x87) ((Gg a1.Peers.l s73).bind fun x90=>(CC x90.End).bind fun x93=>some x93)).bind fun x94=>some x94)).bind fun x95=>if x95=true then (some false).map fun r=> .inr (.inr r) else some (.inl (IntKind.i64.wrap (s73+1))) else some (.inr (.inl ()))) 0).bind (Sum.elim (fun(p74:Unit)=>some true) some)))
noncomputable def L1(a:CP [Ad,Ad]):D2 tb Fq [Ad,Ad] [T.b] a:=Ai<|Au (B5 (t:=Ad) 2 r_ r_ Ah) fun _=>Au (B5 (t:=Ad) 3 r_ r_ Ah) fun _=>Al (AQ CM)<|At<|Aq (Ax (t:=Ad) (u:=Ad) Ah r_ r_ (A0 _) r_ r_) fun x1=>Aa.inl (τ:=(List ((Ar UInt8 32)×Aj))) (φs:=[.val Ad x1]) (n:=1) (L:=[(2, .cp 2 0),(3, .cp 3 0)]) (Γr:=(fun p2=>⟨[(0, .own 1006)],[(2, .cells [(35, .val Ad a.1)]),(3, .cells [(35, .val Ad a.2)]),(1006, .dom (Cd (A1 32 T.u8) Ac) p2),MB,D0]⟩)) 2000000 (fun p2=>⟨[(10, .own 1006),(2, .cp 2 0),(3, .cp 3 0)],[(2, .cells [(35, .val Ad a.1)]),(3, .cells [(35, .val Ad a.2)]),(1006, .dom (Cd (A1 32 T.u8) Ac) p2)]⟩) GJ r_ r_ r_ (Gc r_) (.cons (MJ Ah)<| .nil) sB r_ (Ai<|Au (B5 (t:=Ad) 1 r_ r_ Ah) fun _=>Al (AQ (VA r_ r_))<|At<|Au (Sm (K:=(A1 32 T.u8)) (V:=Ac) 1006 r_) fun _=>Ag r_<|At<|Ai<|Al (Ay Ah)<|Aq (Ax (t:=Ad) (u:=(BM (T.sl Ac))) Ah r_ r_ A5 r_ r_) fun x3=>Ap (C4 (AH Ah)) fun x4=>Al (AQ BA)<|Af<|AE<|Aa.loop (id:=0) (σ:=(Int×(List ((Ar UInt8 32)×Aj)))) (τ:=(List ((Ar UInt8 32)×Aj))) (fun s5=>⟨[(3, .own 1006),(8, .val (BM (T.sl Ac)) x3),(9, .val (T.int .i64) x4),(10, .val (T.int .i64) s5.1)],[(2, .cells [(35, .val Ad a.1)]),(3, .cells [(35, .val Ad a.2)]),(1006, .dom (Cd (A1 32 T.u8) Ac) s5.2),MB,D0]⟩) (fun p6=>⟨[(3, .own 1006)],[(2, .cells [(35, .val Ad a.1)]),(3, .cells [(35, .val Ad a.2)]),(1006, .dom (Cd (A1 32 T.u8) Ac) p6),MB,D0]⟩) (0,([]:List ((Ar UInt8 32)×Aj))) sB (fun _=>r_) (fun s5=>Ai<|Ap (AK r_ Ah Ah) fun x7=>At<|Aa.cond Ah (Aa.skip<|At<|AE<|Ai<|Aa.op (C0 r_ (AH Ah) Ah) fun x8=>
 Aq (DF r_ r_ Ah) fun x9=>Au (Bi (t:=Ac) 5 r_ r_) fun x10=>Au (Be Ah Ah r_ r_ (A0 _) r_) fun x11=>Af<|Ag r_<|Al (Ay Ah)<|Aq (Ax (t:=Ac) (u:=(A1 32 T.u8)) Ah r_ r_ AF r_ r_) fun x12=>Aq (Ax (t:=Ac) (u:=Ac) Ah r_ r_ (A0 _) r_ r_) fun x13=>Au (PA (K:=(A1 32 T.u8)) (V:=Ac) ⟨_,(Ba 32 Bg.u8), .inl ⟨r_,r_⟩⟩ Ah r_ Ah Ah) fun x14=>AR<|Af<|Ap (BR (I:=(IT.int .i64)) Ah BA) fun x15=>Ag r_<|AY (x15,x14) sB) (Bb<|B1 s5.2 sB)) (fun p6=>Bc<|At<|Ag r_<|Ag r_<|Af<|BN p6 (.cons (Hz r_)<| .nil) sB)) (fun p2=>B9 sB r_ (.one r_) trivial sB) (.one fun p2=>Ag r_<|At<|Aq (Ax (t:=Ad) (u:=Ad) Ah r_ r_ (A0 _) r_ r_) fun x16=>Ag r_<|Aa.inl (τ:=(GS Aj)) (φs:=[.val Ad x16, .own 1006]) (n:=1) (L:=[(3, .cp 3 0)]) (Γr:=(fun p17=>⟨[(0, .val (T.sl Ac) p17)],[(3, .cells [(35, .val Ad a.2)]),D0]⟩)) 2000000 (fun p17=>⟨[(13, .val (T.sl Ac) p17),(3, .cp 3 0)],[(3, .cells [(35, .val Ad a.2)])]⟩) I7 r_ r_ r_ (Gc r_) (.cons (MJ Ah)<| .cons (MJ Ah)<| .nil) sB r_ (Ai<|Au (B5 (t:=Ad) 1002 r_ r_ Ah) fun _=>Au (W4 1003 r_ r_ r_ Ah) fun _=>Al (AQ (GF (t:=Ac)))<|At<|Al (Ay Ah)<|Aq (Ax (t:=Ad) (u:=(BM (T.sl Ac))) Ah r_ r_ A5 r_ r_) fun x18=>Aa.inl (τ:=(GS Aj)) (φs:=[.val (T.sl Ac) x18]) (n:=1) (L:=[(3, .cp 1003 0)]) (Γr:=(fun p19=>⟨[(0, .own 3002)],[(3, .cells [(35, .val Ad a.2)]),GZ,(1006, .dom (Cd (A1 32 T.u8) Ac) p2),(3002, .row Ac p19),D0,(2100003, .ghost (.cp 1003 0))]⟩)) 2100000 (fun p19=>⟨[(7, .own 3002),(3, .cp 1003 0)],[(3, .cells [(35, .val Ad a.2)]),GZ,(1006, .dom (Cd (A1 32 T.u8) Ac) p2),(3002, .row Ac p19),D0]⟩) EZ r_ r_ r_ (Gc r_) (.cons (MJ (AH Ah))<| .nil) sB r_ (
 Ai<|Al (AQ (GF (t:=Ac)))<|Aa.turn (born (n:=2) (j:=2002) r_ r_)<|At<|Ai<|Ag r_<|Ap (NB (neg:=false) Ah) fun x20=>Af<|Aa.cond Ah (Ai<|Al (AQ (GF (t:=Ac)))<|Aa.turn (born (n:=2) (j:=3002) r_ r_)<|Af<|BN .nil (.cons (Hz r_)<| .nil) sB) (Aa.skip<|At<|Au (W5 (t:=Ac) (n:=0) 3002 r_ r_ (.nil _) r_) fun x21=>Ag r_<|Ej (I9 r_ Ah r_ (My Ah)) fun x22=>Ag r_<|Af<|BN x22 (.cons (Hz r_)<| .nil) sB)) (fun p19=>B9 sB r_ (.one r_) trivial sB) (.one fun p19=>TW (XY (φs:=[]) (ψs:=[.cp 1003 0]) 3400320 (.nil) (.cons Ah<| .nil) r_ sB (js:=[]) (ks:=[3400320]) r_ r_)<|Aa.inl (τ:=(GS Aj)) (φs:=[.own 3002, .fnv (.func Bp) [] [3400320]]) (n:=1) (L:=[]) (Γr:=(fun p23=>⟨[(0, .val (T.sl Ac) p23)],[(3, .cells [(35, .val Ad a.2)]),D0]⟩)) 2100000 (fun p23=>⟨[(9, .val (T.sl Ac) p23)],[(3, .cells [(35, .val Ad a.2)]),D0]⟩) DW r_ r_ r_ (Gc r_) (.cons (MJ Ah)<| .cons (MJ Ah)<| .nil) trivial r_ (Ai<|Al (AQ (GF (t:=Ac)))<|At<|Ag r_<|Ag r_<|Aa.inl (τ:=Int) (φs:=[.own 3002, .fnv (.func Bp) [] [3400320]]) (n:=1) (L:=[(0, .own 3002),JK]) (Γr:=(fun p24=>⟨[(0, .val (T.int .i64) p24)],[(3, .cells [(35, .val Ad a.2)]),GZ,(1006, .dom (Cd (A1 32 T.u8) Ac) p2),(3002, .row Ac p19),D0,U9,MA,IB]⟩)) 2200000 (fun p24=>⟨[(10, .val (T.int .i64) p24),(0, .own 3002),JK],[(3, .cells [(35, .val Ad a.2)]),GZ,(1006, .dom (Cd (A1 32 T.u8) Ac) p2),(3002, .row Ac p19),D0,IB]⟩) Ee r_ r_ r_ (Gc r_) (.cons (MJ Ah)<| .cons (MJ Ah)<| .nil) sB r_ (Ai<|Al (AQ BA)<|At<|Ai<|Ag r_<|Ap (LE Ah r_) fun x25=>Al (AQ BA)<|Af<|AE<|Aa.loop (id:=0) (σ:=Int) (τ:=Unit) (fun s26=>⟨[(0, .own 3002),JK,(7, .val (T.int .i64) x25),(8, .val (T.int .i64) s26)],[(3, .cells [(35, .val Ad a.2)]),GZ,(1006, .dom (Cd (A1 32 T.u8) Ac) p2),(3002, .row Ac p19),D0,U9,MA,IB]⟩) (fun p27=>⟨[],[(3, .cells [(35, .val Ad a.2)]),GZ,(1006, .dom (Cd (A1 32 T.u8) Ac) p2),(3002, .row Ac p19),D0,U9,MA,IB]⟩) 0 sB (fun _=>r_) (fun s26=>
 Ai<|Ap (AK r_ Ah Ah) fun x28=>At<|Aa.cond Ah (Aa.skip<|At<|AE<|Ai<|Ag r_<|Ag r_<|At<|Ag r_<|Ag r_<|Ag r_<|Aa.op (Ku r_ Ah r_ Ah) fun x29=>Aa.op (R9 (t:=Ac) (u:=Ac) r_ r_ (A0 _) Ah r_) fun x30=>Aa.inl (τ:=Bool) (φs:=[.val Ac x30, .cp 1003 0]) (n:=1) (L:=[(0, .own 3002),JK,(5, .val (T.int .i64) s26),(7, .val (T.int .i64) x25),(8, .val (T.int .i64) s26)]) (Γr:=(fun p31=>⟨[(0, .val T.b p31)],[(3, .cells [(35, .val Ad a.2)]),GZ,(1006, .dom (Cd (A1 32 T.u8) Ac) p2),(3002, .row Ac p19),D0,U9,MA,(2300000, .ghost (.own 3002)),Zw,(2300005, .ghost (.val (T.int .i64) s26)),(2300007, .ghost (.val (T.int .i64) x25)),(2300008, .ghost (.val (T.int .i64) s26)),IB]⟩)) 2300000 (fun p31=>⟨[(16, .val T.b p31),(0, .own 3002),JK,(5, .val (T.int .i64) s26),(7, .val (T.int .i64) x25),(8, .val (T.int .i64) s26)],[(3, .cells [(35, .val Ad a.2)]),GZ,(1006, .dom (Cd (A1 32 T.u8) Ac) p2),(3002, .row Ac p19),D0,U9,MA,IB]⟩) Ef r_ r_ r_ (MR Ah r_) (.cons (MJ Ah)<| .cons (Z9 r_)<| .nil) sB r_ (Ai<|Au (B5 (t:=Ac) 2 r_ r_ Ah) fun _=>Al (AQ CM)<|At<|Al (FX Ah r_ r_ r_)<|Al (Ay Ah)<|Aq (Ax (t:=Ac) (u:=(A1 32 T.u8)) Ah r_ r_ AF r_ r_) fun x32=>Ap (LD (K:=(A1 32 T.u8)) (V:=Ac) ⟨_,(Ba 32 Bg.u8), .inl ⟨r_,r_⟩⟩ (.inl ⟨r_,r_⟩) Ah r_ Ah) fun x33=>Ag r_<|Aq (Gh Ah r_) fun x34=>Aq (Gh Ah r_) fun x35=>Au (Bi (t:=Ac) 4 r_ r_) fun x36=>Au (Be Ah Ah r_ r_ (A0 _) r_) fun x37=>Ag r_<|At<|Ag r_<|Ap (BI Ah) fun x38=>Ag r_<|Af<|BN x38 (.cons (Hz r_)<| .nil) sB) (fun p31=>B9 sB r_ (.one r_) trivial sB) (.one fun p31=>Af<|Aa.cond Ah (
 Ai<|Ag r_<|Ag r_<|Af<|Bq<|BN s26 (.cons (Hz r_)<| .nil) sB) (Aa.skip<|AR<|Af<|Ap (BR (I:=(IT.int .i64)) Ah BA) fun x39=>Ag r_<|AY x39 sB))) (Bb<|B1 () sB)) (fun p27=>Bc<|At<|Al (AQ BA)<|Af<|BN (-1) (.cons (Hz r_)<| .nil) sB)) (fun p24=>B9 sB r_ (.one r_) trivial sB) (.one fun p24=>Ag r_<|At<|Ai<|Ag r_<|Ap (AK r_ Ah BA) fun x40=>Af<|Aa.cond Ah (Ai<|Ag r_<|Ag r_<|Af<|Aa.frzRow 3002 r_ r_<|BN p19 (.cons (Hz r_)<| .nil) sB) (Aa.skip<|At<|Ai<|Ag r_<|Ap (BR (I:=(IT.int .i64)) Ah BA) fun x41=>Ag r_<|Af<|AE<|Aa.loop (id:=0) (σ:=(Int×Int×(GS Aj))) (τ:=(Int×(GS Aj))) (fun s42=>⟨[(0, .own 3002),JK,(5, .val (T.int .i64) s42.1),(6, .val (T.int .i64) s42.2.1)],[(3, .cells [(35, .val Ad a.2)]),GZ,(1006, .dom (Cd (A1 32 T.u8) Ac) p2),(3002, .row Ac s42.2.2),D0,IB]⟩) (fun p43=>⟨[(0, .own 3002),(5, .val (T.int .i64) p43.1)],[(3, .cells [(35, .val Ad a.2)]),(3002, .row Ac p43.2),D0]⟩) (p24,x41,p19) sB (fun _=>r_) (fun s42=>Ai<|Ai<|Ag r_<|Ag r_<|Ap (LE Ah r_) fun x44=>Ap (AK r_ Ah Ah) fun x45=>Af<|Aa.cond Ah (Aa.skip<|At<|AE<|Ai<|Ag r_<|Ag r_<|Aa.op (Ku r_ Ah r_ Ah) fun x46=>Aa.op (R9 (t:=Ac) (u:=Ac) r_ r_ (A0 _) Ah r_) fun x47=>Au (Bi (t:=Ac) 7 r_ r_) fun x48=>Au (Be Ah Ah r_ r_ (A0 _) r_) fun x49=>At<|Ag r_<|Aq (Ax (t:=Ac) (u:=Ac) Ah r_ r_ (A0 _) r_ r_) fun x50=>Aa.inl (τ:=Bool) (φs:=[.val Ac x50, .cp 1003 0]) (n:=1) (L:=[(0, .own 3002),JK,(5, .val (T.int .i64) s42.1),(6, .val (T.int .i64) s42.2.1),(7, .cp 7 0)]) (Γr:=(fun p51=>⟨[(0, .val T.b p51)],[(3, .cells [(35, .val Ad a.2)]),(7, .cells [(86, .val Ac x49)]),GZ,(1006, .dom (Cd (A1 32 T.u8) Ac) p2),(3002, .row Ac s42.2.2),D0,U9,MA,(2200005, .ghost (.val (T.int .i64) s42.1)),(2200006, .ghost (.val (T.int .i64) s42.2.1)),(2200007, .ghost (.cp 7 0)),IB]⟩)) 2200000 (fun p51=>⟨[(28, .val T.b p51),(0, .own 3002),JK,(5, .val (T.int .i64) s42.1),(6, .val (T.int .i64) s42.2.1),(7, .cp 7 0)],[(3, .cells [(35, .val Ad a.2)]),(7, .cells [(86, .val Ac x49)]),GZ,(1006, .dom (Cd (A1 32 T.u8) Ac) p2),(3002, .row Ac s42.2.2),D0,IB]⟩) Ef r_ r_ r_ (MR Ah r_) (.cons (MJ Ah)<| .cons (Z9 r_)<| .nil) sB r_ (
 Ai<|Au (B5 (t:=Ac) 2 r_ r_ Ah) fun _=>Al (AQ CM)<|At<|Al (FX Ah r_ r_ r_)<|Al (Ay Ah)<|Aq (Ax (t:=Ac) (u:=(A1 32 T.u8)) Ah r_ r_ AF r_ r_) fun x52=>Ap (LD (K:=(A1 32 T.u8)) (V:=Ac) ⟨_,(Ba 32 Bg.u8), .inl ⟨r_,r_⟩⟩ (.inl ⟨r_,r_⟩) Ah r_ Ah) fun x53=>Ag r_<|Aq (Gh Ah r_) fun x54=>Aq (Gh Ah r_) fun x55=>Au (Bi (t:=Ac) 4 r_ r_) fun x56=>Au (Be Ah Ah r_ r_ (A0 _) r_) fun x57=>Ag r_<|At<|Ag r_<|Ap (BI Ah) fun x58=>Ag r_<|Af<|BN x58 (.cons (Hz r_)<| .nil) sB) (fun p51=>B9 sB r_ (.one r_) trivial sB) (.one fun p51=>Ap (BI Ah) fun x59=>Af<|Aa.cond Ah (Ai<|Ag r_<|Ag r_<|Aq (Ax (t:=Ac) (u:=Ac) Ah r_ r_ (A0 _) r_ r_) fun x60=>Aa.op (Ku r_ Ah r_ Ah) fun x61=>Ej (XW (t:=Ac) (u:=Ac) r_ (A0 _) Ah Ah r_) fun x62=>Af<|Ag r_<|Ap (BR (I:=(IT.int .i64)) Ah BA) fun x63=>Ag r_<|AR<|Af<|Ag r_<|Ap (BR (I:=(IT.int .i64)) Ah BA) fun x64=>Ag r_<|AY (x63,x64,x62) sB) (Aa.skip<|AR<|Af<|Ag r_<|Ap (BR (I:=(IT.int .i64)) Ah BA) fun x65=>Ag r_<|AY (s42.1,x65,s42.2.2) sB))) (Bb<|B1 (s42.1,s42.2.2) sB)) (fun p43=>Bc<|At<|Ag r_<|Ag r_<|Aa.clr Ah r_ r_ r_ Ah fun x66=>At<|Ag r_<|Ag r_<|Aa.frzRow 3002 r_ r_<|Aa.op (XR r_ Ah .none (.some Ah)) fun x67=>Ag r_<|Af<|BN x67 (.cons (Hz r_)<| .nil) sB)))) (fun p23=>B9 sB r_ (.one r_) trivial trivial) (.one fun p23=>Ag r_<|Af<|BN p23 (.cons (Hz r_)<| .nil) sB))) (fun p17=>B9 sB r_ (.one r_) trivial sB) (.one fun p17=>Ag r_<|At<|Ai<|Ag r_<|Ap (C4 Ah) fun x68=>Al (Ay Ah)<|Aq (Ax (t:=Ad) (u:=(BM (T.sl Ac))) Ah r_ r_ A5 r_ r_) fun x69=>Ap (C4 (AH Ah)) fun x70=>Ap (AK r_ Ah Ah) fun x71=>
 Af<|Aa.cond Ah (Ai<|Al (AQ CM)<|Af<|Aa.ret (.one (Bk r_))) (Aa.skip<|At<|Ai<|Ag r_<|Ap (C4 Ah) fun x72=>Al (AQ BA)<|Af<|AE<|Aa.loop (id:=0) (σ:=Int) (τ:=Unit) (fun s73=>⟨[(3, .cp 3 0),(20, .val (T.sl Ac) p17),(21, .val (T.int .i64) x72),(22, .val (T.int .i64) s73)],[(3, .cells [(35, .val Ad a.2)])]⟩) (fun p74=>⟨[],[]⟩) 0 sB (fun _=>r_) (fun s73=>Ai<|Ap (AK r_ Ah Ah) fun x75=>At<|Aa.cond Ah (Aa.skip<|At<|AE<|Ai<|Ag r_<|Aa.op (C0 r_ Ah Ah) fun x76=>Aq (DF r_ r_ Ah) fun x77=>Au (Bi (t:=Ac) 8 r_ r_) fun x78=>Ag r_<|Au (Be Ah Ah r_ r_ (A0 _) r_) fun x79=>At<|Al (Ay Ah)<|Aq (Ax (t:=Ad) (u:=(BM (T.sl Ac))) Ah r_ r_ A5 r_ r_) fun x80=>Ag r_<|Aa.op (C0 r_ (AH Ah) Ah) fun x81=>Ix (JJ AF Ah) fun x82=>Aq (DF r_ r_ Ah) fun x83=>Al (Ay Ah)<|Aq (Ax (t:=Ac) (u:=(A1 32 T.u8)) Ah r_ r_ AF r_ r_) fun x84=>Ap (Fy (Ba 32 Bg.u8) r_ r_ Ah Ah) fun x85=>Ag r_<|Aa.or 13 r_ r_ r_ (A8 (Ay Ah)<|A6 (Ax (t:=Ac) (u:=Az) Ah r_ r_ Bf r_ r_) fun x86=>AD.op (AN Ev (.one Ah)) fun x87=>AJ (BI Ah) fun x88=>A8 (AQ (IE r_))<|AD.and 7 r_ r_ r_ r_ r_ (A8 (Ay Ah)<|A6 (Ax (t:=Ad) (u:=(BM (T.sl Ac))) Ah r_ r_ A5 r_ r_) fun x89=>A8 (AQ (IE r_))<|AD.op (C0 r_ (AH Ah) Ah) fun x90=>Iz (JJ Bf Ah) fun x91=>A6 (DF r_ r_ Ah) fun x92=>AD.op (AN Ev (.one Ah)) fun x93=>AD.nil Ah) fun x94=>AD.nil Ah) fun x95=>Af<|Aa.cond Ah (Ai<|Al (AQ CM)<|Af<|Bq<|Aa.ret (.one (Bk r_))) (Aa.skip<|AR<|Af<|Ap (BR (I:=(IT.int .i64)) Ah BA) fun x96=>Ag r_<|AY x96 sB)) (Bb<|B1 () sB)) (fun p74=>Bc<|At<|Al (AQ CM)<|Af<|Aa.ret (.one (Bk r_))))))
theorem I1:Spec tb CI [Ad,Ad] [T.b] (fun a=>E7 a.1 a.2):=
 Spec.of NL r_ r_ r_ L1
noncomputable def Cp(a0:(GS Aw)):Option (GS Aw):=if a0.isN=true then some .nil else (MS 32 (GS.mk []) a0.l).bind fun x3=>some x3
noncomputable def Gm(a:CP [(T.sl An)]):D2 tb C7 [(T.sl An)] [(T.sl An)] a:=Ai<|Al (AQ (GF (t:=An)))<|Aa.turn (born (n:=2) (j:=1002) r_ r_)<|At<|Ai<|Ag r_<|Ap (NB (neg:=false) Ah) fun x1=>Af<|Aa.cond Ah (Ai<|Al (AQ (GF (t:=An)))<|Aa.turn (born (n:=2) (j:=2002) r_ r_)<|Af<|Aa.frzRow 2002 r_ r_<|Aa.ret (.one (Bk r_))) (Aa.skip<|At<|Au (W5 (t:=An) (n:=0) 2002 r_ r_ (.nil _) r_) fun x2=>Ag r_<|Ej (I9 r_ Ah r_ (My Ah)) fun x3=>Ag r_<|Af<|Aa.frzRow 2002 r_ r_<|Aa.ret (.one (Bk r_)))
theorem En:Spec tb Bv [(T.sl An)] [(T.sl An)] (fun a=>Cp a):=
 Spec.of GY r_ r_ r_ Gm
noncomputable def Fc(a0:AG):Option Av:=(iter (fun(s9:(Int×(GS Ak)))=>if(decide (s9.1<(a0.Peers.l.length:Int)))=true then (Gg a0.Peers.l s9.1).bind fun x12=>let x19:=(⟨x12.Key,false,false,true,x12.Psk,false,Az.z,true,x12.Keep,true, .nil⟩:Ak);(CC x12.End).bind fun x23=>(Cp x12.Allowed).bind fun x26=>let x28:={{x19 with HasEnd:= !x23}with End:=x12.End};(MS 152 s9.2 [({x28 with Allowed:=x26})]).bind fun x32=>some (.inl (IntKind.i64.wrap (s9.1+1),x32)) else some (.inr (.inl s9.2))) (0, .nil)).bind (Sum.elim (fun(p10:(GS Ak))=>let x34:=(⟨(⟨true,a0.Private,true,a0.Port,true,a0.Mark,true, .nil⟩:Av).HasPrivate,(⟨true,a0.Private,true,a0.Port,true,a0.Mark,true, .nil⟩:Av).Private,(⟨true,a0.Private,true,a0.Port,true,a0.Mark,true, .nil⟩:Av).HasPort,(⟨true,a0.Private,true,a0.Port,true,a0.Mark,true, .nil⟩:Av).Port,(⟨true,a0.Private,true,a0.Port,true,a0.Mark,true, .nil⟩:Av).HasMark,(⟨true,a0.Private,true,a0.Port,true,a0.Mark,true, .nil⟩:Av).Mark,(⟨true,a0.Private,true,a0.Port,true,a0.Mark,true, .nil⟩:Av).Replace,p10⟩:Av);some x34) some)
noncomputable def Ly(a:CP [Ad]):D2 tb Fk [Ad] [Ab] a:=Ai<|Au (B5 (t:=Ad) 1 r_ r_ Ah) fun _=>Au (Bi (t:=Ab) 2 r_ r_) fun x1=>At<|Al (Ay Ah)<|Aq (Ax (t:=Ad) (u:=(A1 32 T.u8)) Ah r_ r_ BH r_ r_) fun x2=>Al (Ay Ah)<|Aq (Ax (t:=Ad) (u:=(T.int .i64)) Ah r_ r_ BL r_ r_) fun x3=>Al (Ay Ah)<|Aq (Ax (t:=Ad) (u:=T.u32) Ah r_ r_ Cn r_ r_) fun x4=>Al (El.u (Dy r_ r_ (.cons BO r_ CM<| .cons Df r_ Ah<| .cons Ch r_ CM<| .cons DU r_ Ah<| .cons Ci r_ CM<| .cons DV r_ Ah<| .cons Cg r_ CM<| .nil _)))<|Au (Bi (t:=Ab) 3 r_ r_) fun x5=>Au (Mr.u (Be Ah Ah r_ r_ (A0 _) r_)) fun _=>Aa.turn (JF (j:=3) r_ (.iso (.prod .one (.prod .one (.prod .one (.prod .one (.prod .one (.prod .one (.prod .one .one)))))))))<|Aa.turn (TO (t:=Ae) (i:=3) (o:=38) (j:=3037) r_ r_ r_ r_)<|At<|Ai<|Al (Ay Ah)<|Aq (Ax (t:=Ad) (u:=(BM (T.sl Ac))) Ah r_ r_ A5 r_ r_) fun x7=>Ap (C4 (AH Ah)) fun x8=>Al (AQ BA)<|Af<|AE<|Aa.loop (id:=0) (σ:=(Int×(GS Ak))) (τ:=(GS Ak)) (fun s9=>⟨[(2, .cp 2 0),(3, .cp 3 0),(15, .val (BM (T.sl Ac)) x7),(16, .val (T.int .i64) x8),(17, .val (T.int .i64) s9.1)],[(2, .cells [(39, .val Ab x1)]),(3, .cells [(1, .val T.b (⟨true,x2,true,x3,true,x4,true, .nil⟩:Av).HasPrivate),(32, .val (A1 32 T.u8) (⟨true,x2,true,x3,true,x4,true, .nil⟩:Av).Private),(1, .val T.b (⟨true,x2,true,x3,true,x4,true, .nil⟩:Av).HasPort),(1, .val (T.int .i64) (⟨true,x2,true,x3,true,x4,true, .nil⟩:Av).Port),(1, .val T.b (⟨true,x2,true,x3,true,x4,true, .nil⟩:Av).HasMark),(1, .val T.u32 (⟨true,x2,true,x3,true,x4,true, .nil⟩:Av).Mark),(1, .val T.b (⟨true,x2,true,x3,true,x4,true, .nil⟩:Av).Replace),(1, .own 3037)]),(3037, .row Ae s9.2)]⟩) (fun p10=>⟨[(2, .cp 2 0),(3, .cp 3 0)],[(2, .cells [(39, .val Ab x1)]),(3, .cells [(1, .val T.b (⟨true,x2,true,x3,true,x4,true, .nil⟩:Av).HasPrivate),(32, .val (A1 32 T.u8) (⟨true,x2,true,x3,true,x4,true, .nil⟩:Av).Private),(1, .val T.b (⟨true,x2,true,x3,true,x4,true, .nil⟩:Av).HasPort),(1, .val (T.int .i64) (⟨true,x2,true,x3,true,x4,true, .nil⟩:Av).Port),(1, .val T.b (⟨true,x2,true,x3,true,x4,true, .nil⟩:Av).HasMark),(1, .val T.u32 (⟨true,x2,true,x3,true,x4,true, .nil⟩:Av).Mark),(1, .val T.b (⟨true,x2,true,x3,true,x4,true, .nil⟩:Av).Replace),(1, .own 3037)]),(3037, .row Ae p10)]⟩) (0, .nil) sB (fun _=>r_) (fun s9=>
 Ai<|Ap (AK r_ Ah Ah) fun x11=>At<|Aa.cond Ah (Aa.skip<|At<|AE<|Ai<|Aa.op (C0 r_ (AH Ah) Ah) fun x12=>Aq (DF r_ r_ Ah) fun x13=>Au (Bi (t:=Ac) 5 r_ r_) fun x14=>Au (Be Ah Ah r_ r_ (A0 _) r_) fun x15=>At<|Al (Ay Ah)<|Aq (Ax (t:=Ac) (u:=(A1 32 T.u8)) Ah r_ r_ AF r_ r_) fun x16=>Al (Ay Ah)<|Aq (Ax (t:=Ac) (u:=(A1 32 T.u8)) Ah r_ r_ C3 r_ r_) fun x17=>Al (Ay Ah)<|Aq (Ax (t:=Ac) (u:=(T.int .i64)) Ah r_ r_ BK r_ r_) fun x18=>Ap (Dy r_ r_ (.cons Bo r_ Ah<| .cons By r_ CM<| .cons Ct r_ Ah<| .cons Bs r_ CM<| .cons Cj r_ Ah<| .cons BP r_ CM<| .nil _)) fun x19=>Au (Bi (t:=Ae) 6 r_ r_) fun x20=>Au (Be Ah Ah r_ r_ (A0 _) r_) fun x21=>At<|Aa.regd 3<|AL r_ (Ay Ah)<|DE r_ (Ax (t:=Ac) (u:=Az) Ah r_ r_ Bf r_ r_) fun x22=>AM.op r_ (AN Ev (.one Ah)) fun x23=>Fv r_ (BI Ah) fun x24=>AL r_ (Ay Ah)<|FE r_ (Ax (t:=Ac) (u:=Az) Ah r_ r_ Bf r_ r_)<|AL r_ (Ay Ah)<|DE r_ (Ax (t:=Ac) (u:=(BM (T.sl An))) Ah r_ r_ AU r_ r_) fun x25=>AM.op r_ (AN En (.one (AH Ah))) fun x26=>AL r_ (Ay Ah)<|Cf r_ (fun _=> .cons (Ax (t:=Ac) (u:=Az) Ah r_ r_ Bf r_ r_) Ah (T.Uni.iso (T.Uni.prod (T.Uni.iso (T.Uni.prod EE (HQ HT))) EE)) (.nil)) (.nil) (Be Ah Ah r_ r_ Bz r_) fun x27=>AL r_ (Ay Ah)<|Cf r_ (fun _=> .nil) (.nil) (Be Ah Ah r_ r_ Cu r_) fun x28=>AL r_ (Ay Ah)<|Cf r_ (fun _=> .nil) (.nil) (Be Ah Ah r_ r_ BQ r_) fun x29=>Dk<|Af<|Al (Ay Ah)<|Al (FX Ah r_ r_ r_)<|Aq (Ax (t:=Ae) (u:=Ae) Ah r_ r_ (A0 _) r_ r_) fun x30=>Ap (KQ (t:=Ae) (n:=1) r_ r_ (.cons r_ Ah<| .nil _)) fun x31=>Ej (I9 r_ Ah r_ (My Ah)) fun x32=>Al (Ay Ah)<|Au (Ms r_ r_ Ah Ah r_ r_) fun _=>
 AR<|Af<|Ap (BR (I:=(IT.int .i64)) Ah BA) fun x33=>Ag r_<|AY (x33,x32) sB) (Bb<|B1 s9.2 sB)) (fun p10=>Bc<|At<|Aa.frzRow 3037 r_ r_<|Aa.turn (G8 (j:=3) (t:=Ab) (⟨(⟨true,x2,true,x3,true,x4,true, .nil⟩:Av).HasPrivate,(⟨true,x2,true,x3,true,x4,true, .nil⟩:Av).Private,(⟨true,x2,true,x3,true,x4,true, .nil⟩:Av).HasPort,(⟨true,x2,true,x3,true,x4,true, .nil⟩:Av).Port,(⟨true,x2,true,x3,true,x4,true, .nil⟩:Av).HasMark,(⟨true,x2,true,x3,true,x4,true, .nil⟩:Av).Mark,(⟨true,x2,true,x3,true,x4,true, .nil⟩:Av).Replace,p10⟩:Av) r_ (.iso (.prod .one (.prod .one (.prod .one (.prod .one (.prod .one (.prod .one (.prod .one .one))))))) r_))<|Aq (Ax (t:=Ab) (u:=Ab) Ah r_ r_ (A0 _) r_ r_) fun x34=>Au (Be Ah Ah r_ r_ (A0 _) r_) fun x35=>Af<|Aa.ret (.one (FN r_ r_ r_ (A0 _) r_ r_)))
theorem Mt:Spec tb Di [Ad] [Ab] (fun a=>Fc a):=
 Spec.of NI r_ r_ r_ Ly
noncomputable def BV(a0:(GS Aw))(a1:(GS Aw)):Option Bool:=let x3:= !decide ((a0.l.length:Int)=(a1.l.length:Int));if x3=true then some false else (iter (fun(s5:Int)=>if(decide (s5<(a0.l.length:Int)))=true then (Gg a0.l s5).bind fun x8=>(Gg a1.l s5).bind fun x10=>if(!(Dw BZ x8 x10))=true then (some false).map fun r=> .inr (.inr r) else some (.inl (IntKind.i64.wrap (s5+1))) else some (.inr (.inl ()))) 0).bind (Sum.elim (fun(p6:Unit)=>some true) some)
noncomputable def Gl(a:CP [(T.sl An),(T.sl An)]):D2 tb C6 [(T.sl An),(T.sl An)] [T.b] a:=Ai<|Al (AQ CM)<|At<|Ai<|Ag r_<|Ap (C4 Ah) fun x1=>Ag r_<|Ap (C4 Ah) fun x2=>Ap (AK r_ Ah Ah) fun x3=>Af<|Aa.cond Ah (Ai<|Al (AQ CM)<|Af<|Aa.ret (.one (Bk r_))) (Aa.skip<|At<|Ai<|Ag r_<|Ap (C4 Ah) fun x4=>Al (AQ BA)<|Af<|AE<|Aa.loop (id:=0) (σ:=Int) (τ:=Unit) (fun s5=>⟨[(0, .val (T.sl An) a.1),(1, .val (T.sl An) a.2),(12, .val (T.int .i64) x4),(13, .val (T.int .i64) s5)],[]⟩) (fun p6=>⟨[],[]⟩) 0 sB (fun _=>r_) (fun s5=>Ai<|Ap (AK r_ Ah Ah) fun x7=>At<|Aa.cond Ah (Aa.skip<|At<|AE<|Ai<|Ag r_<|Ag r_<|At<|Ag r_<|Ag r_<|Aa.op (C0 r_ Ah Ah) fun x8=>Aq (DF r_ r_ Ah) fun x9=>Ag r_<|Ag r_<|Aa.op (C0 r_ Ah Ah) fun x10=>Aq (DF r_ r_ Ah) fun x11=>Ap (Fy BZ r_ r_ Ah Ah) fun x12=>Af<|Aa.cond Ah (Ai<|Al (AQ CM)<|Af<|Bq<|Aa.ret (.one (Bk r_))) (Aa.skip<|AR<|Af<|Ap (BR (I:=(IT.int .i64)) Ah BA) fun x13=>Ag r_<|AY x13 sB)) (Bb<|B1 () sB)) (fun p6=>Bc<|At<|Al (AQ CM)<|Af<|Aa.ret (.one (Bk r_))))
theorem Em:Spec tb Bu [(T.sl An),(T.sl An)] [T.b] (fun a=>BV a.1 a.2):=
 Spec.of GX r_ r_ r_ Gl
noncomputable def FI(a0:Aj)(a1:Aj)(a2:Bool):Option (Ak×Bool):=let x4:=(⟨a1.Key,false,!a2,false,(A1 32 T.u8).z,false,Az.z,false,0,false, .nil⟩:Ak);(Ek a2 (some (!(Dw (Ba 32 Bg.u8) a0.Psk a1.Psk)))).bind fun x10=>(if x10=true then let x47:={{x4 with HasPsk:=true}with Psk:=a1.Psk};some (.inl x47) else some (.inl x4):Option (Ak⊕_)).bind (Sum.elim (fun(p11:Ak)=>(if(!(Dw Bh a0.End a1.End))=true then let x45:={{p11 with HasEnd:=true}with End:=a1.End};some (.inl x45) else some (.inl p11):Option (Ak⊕_)).bind (Sum.elim (fun(p16:Ak)=>(Ek a2 (some (!decide (a0.Keep=a1.Keep)))).bind fun x21=>(if x21=true then let x43:={{p16 with HasKeep:=true}with Keep:=a1.Keep};some (.inl x43) else some (.inl p16):Option (Ak⊕_)).bind (Sum.elim (fun(p22:Ak)=>(BV a0.Allowed a1.Allowed).bind fun x26=>(if(!x26)=true then (Cp a1.Allowed).bind fun x40=>some (.inl ({p22 with Allowed:=x40})) else some (.inl p22):Option (Ak⊕_)).bind (Sum.elim (fun(p28:Ak)=>(Ek a2 (some p28.HasPsk)).bind fun x32=>(Ek x32 (some p28.HasEnd)).bind fun x34=>(Ek x34 (some p28.HasKeep)).bind fun x36=>(Ek x36 (some (!x26))).bind fun x37=>some (p28,x37)) some)) some)) some)) some)
noncomputable def K6(a:CP [Ac,Ac,T.b]):D2 tb EH [Ac,Ac,T.b] [Ae,T.b] a:=Ai<|Au (B5 (t:=Ac) 3 r_ r_ Ah) fun _=>Au (B5 (t:=Ac) 4 r_ r_ Ah) fun _=>Au (Bi (t:=Ae) 6 r_ r_) fun x1=>Al (AQ CM)<|At<|Al (Ay Ah)<|Aq (Ax (t:=Ac) (u:=(A1 32 T.u8)) Ah r_ r_ AF r_ r_) fun x2=>Ag r_<|Ap (BI Ah) fun x3=>Ap (Dy r_ r_ (.cons Bo r_ Ah<| .cons BW r_ Ah<| .nil _)) fun x4=>Au (Bi (t:=Ae) 8 r_ r_) fun x5=>Au (Be Ah Ah r_ r_ (A0 _) r_) fun x6=>At<|Ai<|Ag r_<|Ag r_<|Aa.or 5 r_ r_ r_ (A8 (Ay Ah)<|A6 (Ax (t:=Ac) (u:=(A1 32 T.u8)) Ah r_ r_ C3 r_ r_) fun x7=>A8 (Ay Ah)<|A6 (Ax (t:=Ac) (u:=(A1 32 T.u8)) Ah r_ r_ C3 r_ r_) fun x8=>AJ (Fy (Ba 32 Bg.u8) r_ r_ Ah Ah) fun x9=>AD.nil Ah) fun x10=>Af<|CA (τ:=Ak) (fun p11=>⟨[(2, .val T.b a.2.2),(3, .cp 3 0),(4, .cp 4 0),(6, .cp 6 0),(8, .cp 8 0)],[(3, .cells [(86, .val Ac a.1)]),(4, .cells [(86, .val Ac a.2.1)]),(6, .cells [(90, .val Ae x1)]),(8, .cells [(90, .val Ae p11)])]⟩) (fun p11=>At<|Ai<|Al (Ay Ah)<|Aq (Ax (t:=Ac) (u:=Az) Ah r_ r_ Bf r_ r_) fun x13=>Al (Ay Ah)<|Aq (Ax (t:=Ac) (u:=Az) Ah r_ r_ Bf r_ r_) fun x14=>Ap (Fy Bh r_ r_ Ah Ah) fun x15=>Af<|CA (τ:=Ak) (fun p16=>⟨[(2, .val T.b a.2.2),(3, .cp 3 0),(4, .cp 4 0),(6, .cp 6 0),(8, .cp 8 0)],[(3, .cells [(86, .val Ac a.1)]),(4, .cells [(86, .val Ac a.2.1)]),(6, .cells [(90, .val Ae x1)]),(8, .cells [(90, .val Ae p16)])]⟩) (fun p16=>At<|Ai<|Ag r_<|Ag r_<|Aa.or 5 r_ r_ r_ (A8 (Ay Ah)<|A6 (Ax (t:=Ac) (u:=(T.int .i64)) Ah r_ r_ BK r_ r_) fun x18=>A8 (Ay Ah)<|A6 (Ax (t:=Ac) (u:=(T.int .i64)) Ah r_ r_ BK r_ r_) fun x19=>
 AJ (AK r_ Ah Ah) fun x20=>AD.nil Ah) fun x21=>Af<|CA (τ:=Ak) (fun p22=>⟨[(2, .val T.b a.2.2),(3, .cp 3 0),(4, .cp 4 0),(6, .cp 6 0),(8, .cp 8 0)],[(3, .cells [(86, .val Ac a.1)]),(4, .cells [(86, .val Ac a.2.1)]),(6, .cells [(90, .val Ae x1)]),(8, .cells [(90, .val Ae p22)])]⟩) (fun p22=>At<|Al (Ay Ah)<|Aq (Ax (t:=Ac) (u:=(BM (T.sl An))) Ah r_ r_ AU r_ r_) fun x24=>Al (Ay Ah)<|Aq (Ax (t:=Ac) (u:=(BM (T.sl An))) Ah r_ r_ AU r_ r_) fun x25=>Aa.op (AN Em (.cons (AH Ah)<| .one (AH Ah))) fun x26=>Ap (BI Ah) fun x27=>Ag r_<|At<|Ai<|Ag r_<|Af<|CA (τ:=Ak) (fun p28=>⟨[(2, .val T.b a.2.2),(6, .cp 6 0),(8, .cp 8 0),(9, .val T.b x27)],[(6, .cells [(90, .val Ae x1)]),(8, .cells [(90, .val Ae p28)])]⟩) (fun p28=>At<|Aq (Ax (t:=Ae) (u:=Ae) Ah r_ r_ (A0 _) r_ r_) fun x30=>Ag r_<|Ag r_<|Aa.or 2 r_ r_ r_ (A8 (Ay Ah)<|A6 (Ax (t:=Ae) (u:=T.b) Ah r_ r_ By r_ r_) fun x31=>AD.nil Ah) fun x32=>Ag r_<|Aa.or 2 r_ r_ r_ (A8 (Ay Ah)<|A6 (Ax (t:=Ae) (u:=T.b) Ah r_ r_ Bz r_ r_) fun x33=>AD.nil Ah) fun x34=>Ag r_<|Aa.or 2 r_ r_ r_ (A8 (Ay Ah)<|A6 (Ax (t:=Ae) (u:=T.b) Ah r_ r_ Bs r_ r_) fun x35=>AD.nil Ah) fun x36=>Ag r_<|Aa.or 1 r_ r_ r_ (A8 (AQ (IE r_))<|AD.nil Ah) fun x37=>Au (Be Ah Ah r_ r_ (A0 _) r_) fun x38=>Ag r_<|Af<|Aa.ret (.cons (FN r_ r_ r_ (A0 _) r_ r_)<| .one (Bk r_)))<|Aa.cond Ah (Al (Ay Ah)<|Aq (Ax (t:=Ac) (u:=(BM (T.sl An))) Ah r_ r_ AU r_ r_) fun x39=>Aa.op (AN En (.one (AH Ah))) fun x40=>Al (Ay Ah)<|Au (Be Ah Ah r_ r_ BQ r_) fun x41=>Cw x41 sB) (Aa.skip<|Cw p22 sB))<|Aa.cond Ah (Aa.regd 2<|AL r_ (Ay Ah)<|
 FE r_ (Ax (t:=Ac) (u:=(T.int .i64)) Ah r_ r_ BK r_ r_)<|AL r_ (Ay Ah)<|Cf r_ (fun _=> .cons (Ax (t:=Ac) (u:=(T.int .i64)) Ah r_ r_ BK r_ r_) Ah EE (.nil)) (.nil) (Be Ah CM r_ r_ Bs r_) fun x42=>AL r_ (Ay Ah)<|Cf r_ (fun _=> .nil) (.nil) (Be Ah Ah r_ r_ Cj r_) fun x43=>Dk<|Cw x43 sB) (Aa.skip<|Cw p16 sB))<|Aa.cond Ah (Aa.regd 2<|AL r_ (Ay Ah)<|FE r_ (Ax (t:=Ac) (u:=Az) Ah r_ r_ Bf r_ r_)<|AL r_ (Ay Ah)<|Cf r_ (fun _=> .cons (Ax (t:=Ac) (u:=Az) Ah r_ r_ Bf r_ r_) Ah (T.Uni.iso (T.Uni.prod (T.Uni.iso (T.Uni.prod EE (HQ HT))) EE)) (.nil)) (.nil) (Be Ah CM r_ r_ Bz r_) fun x44=>AL r_ (Ay Ah)<|Cf r_ (fun _=> .nil) (.nil) (Be Ah Ah r_ r_ Cu r_) fun x45=>Dk<|Cw x45 sB) (Aa.skip<|Cw p11 sB))<|Aa.cond Ah (Aa.regd 2<|AL r_ (Ay Ah)<|FE r_ (Ax (t:=Ac) (u:=(A1 32 T.u8)) Ah r_ r_ C3 r_ r_)<|AL r_ (Ay Ah)<|Cf r_ (fun _=> .cons (Ax (t:=Ac) (u:=(A1 32 T.u8)) Ah r_ r_ C3 r_ r_) Ah (HQ HT) (.nil)) (.nil) (Be Ah CM r_ r_ By r_) fun x46=>AL r_ (Ay Ah)<|Cf r_ (fun _=> .nil) (.nil) (Be Ah Ah r_ r_ Ct r_) fun x47=>Dk<|Cw x47 sB) (Aa.skip<|Cw x6 sB)
theorem Lw:Spec tb Da [Ac,Ac,T.b] [Ae,T.b] (fun a=>FI a.1 a.2.1 a.2.2):=
 Spec.of M8 r_ r_ r_ K6
noncomputable def DR(a0:AG)(a1:AG):Option Av:=(GA a0).bind fun x3=>(Ek (!x3) ((GA a1).bind fun x6=>some (!x6))).bind fun x8=>if x8=true then let x9:=(⟨Ab.z.HasPrivate,Ab.z.Private,Ab.z.HasPort,Ab.z.Port,Ab.z.HasMark,Ab.z.Mark,Ab.z.Replace, .nil⟩:Av);some x9 else (E7 a0 a1).bind fun x13=>if(!x13)=true then (Fc a1).bind fun x16=>some x16 else (let x23:= !(Dw (Ba 32 Bg.u8) a0.Private a1.Private);(if x23=true then some (.inl (true,a1.Private)) else some (.inl (Ab.z.HasPrivate,Ab.z.Private)):Option ((Bool×(Ar UInt8 32))⊕_)).bind (Sum.elim (fun(p24:(Bool×(Ar UInt8 32)))=>(if(!decide (a0.Port=a1.Port))=true then some (.inl (true,a1.Port)) else some (.inl (Ab.z.HasPort,Ab.z.Port)):Option ((Bool×Int)⊕_)).bind (Sum.elim (fun(p29:(Bool×Int))=>let x33:= !decide ((a0.Mark.toNat:Int)=(a1.Mark.toNat:Int));if x33=true then some (p24.1,p24.2,p29.1,p29.2,true,a1.Mark) else some (p24.1,p24.2,p29.1,p29.2,Ab.z.HasMark,Ab.z.Mark)) some)) some):Option (Bool×(Ar UInt8 32)×Bool×Int×Bool×UInt32)).bind (fun(p20:(Bool×(Ar UInt8 32)×Bool×Int×Bool×UInt32))=>((iter (fun(s44:(Int×(List ((Ar UInt8 32)×Aj))))=>if(decide (s44.1<(a0.Peers.l.length:Int)))=true then (Gg a0.Peers.l s44.1).bind fun x47=>let x53:=H3 (κ:=(Ar UInt8 32)) (ν:=Aj) Br s44.2 x47.Key x47;some (.inl (IntKind.i64.wrap (s44.1+1),x53)) else some (.inr (.inl s44.2))) (0,([]:List ((Ar UInt8 32)×Aj)))).bind (Sum.elim (fun(p45:(List ((Ar UInt8 32)×Aj)))=>some p45) some)).bind (fun(p41:(List ((Ar UInt8 32)×Aj)))=>((iter (fun(s58:(Int×(List ((Ar UInt8 32)×Aj))))=>
 if(decide (s58.1<(a1.Peers.l.length:Int)))=true then (Gg a1.Peers.l s58.1).bind fun x61=>let x67:=H3 (κ:=(Ar UInt8 32)) (ν:=Aj) Br s58.2 x61.Key x61;some (.inl (IntKind.i64.wrap (s58.1+1),x67)) else some (.inr (.inl s58.2))) (0,([]:List ((Ar UInt8 32)×Aj)))).bind (Sum.elim (fun(p59:(List ((Ar UInt8 32)×Aj)))=>some p59) some)).bind (fun(p55:(List ((Ar UInt8 32)×Aj)))=>(iter (fun(s71:(Int×(GS Ak)))=>if(decide (s71.1<(a0.Peers.l.length:Int)))=true then (Gg a0.Peers.l s71.1).bind fun x74=>let x79:=Fb (κ:=(Ar UInt8 32)) (ν:=Aj) Br p55 x74.Key;if(!x79.isSome)=true then let x86:=(⟨x74.Key,true,false,false,(A1 32 T.u8).z,false,Az.z,false,0,false, .nil⟩:Ak);(MS 152 s71.2 [x86]).bind fun x88=>some (.inl (IntKind.i64.wrap (s71.1+1),x88)) else some (.inl (IntKind.i64.wrap (s71.1+1),s71.2)) else some (.inr (.inl s71.2))) (0, .nil)).bind (Sum.elim (fun(p72:(GS Ak))=>((if a1.Peers.isN=true then some .nil else (MS 144 (GS.mk []) a1.Peers.l).bind fun x97=>some x97:Option (GS Aj)).bind (fun(p94:(GS Aj))=>(((iter (fun(s101:Int)=>if(decide (s101<(p94.l.length:Int)))=true then (EM p94.l.length s101).bind fun x104=>(p94.l[x104]?.map fun x=>x).bind fun x105=>(let x108:=Fb (κ:=(Ar UInt8 32)) (ν:=Aj) Br p41 x105.Key;some (!x108.isSome):Option Bool).bind (fun(p106:Bool)=>if p106=true then (some s101).map fun r=> .inr (.inr r) else some (.inl (IntKind.i64.wrap (s101+1)))) else some (.inr (.inl ()))) 0).bind (Sum.elim (fun(p102:Unit)=>some (-1)) some):Option Int).bind (fun(p99:Int)=>if(decide (p99=(-1)))=true then
 some p94 else (iter (fun(s117:(Int×Int×(GS Aj)))=>if(decide (s117.2.1<(s117.2.2.l.length:Int)))=true then (EM s117.2.2.l.length s117.2.1).bind fun x121=>(s117.2.2.l[x121]?.map fun x=>x).bind fun x122=>(let x128:=Fb (κ:=(Ar UInt8 32)) (ν:=Aj) Br p41 x122.Key;some (!x128.isSome):Option Bool).bind (fun(p126:Bool)=>if(!p126)=true then (EM s117.2.2.l.length s117.1).bind fun x136=>(s117.2.2.l[x136]?.map fun y=>s117.2.2.set x136 x122).bind fun x137=>some (.inl (IntKind.i64.wrap (s117.1+1),IntKind.i64.wrap (s117.2.1+1),x137)) else some (.inl (s117.1,IntKind.i64.wrap (s117.2.1+1),s117.2.2))) else some (.inr (.inl (s117.1,s117.2.2)))) (p99,IntKind.i64.wrap (p99+1),p94)).bind (Sum.elim (fun(p118:(Int×(GS Aj)))=>(Se Ac.z p118.2 p118.1).bind fun x141=>(XM x141 none (some p118.1)).bind fun x142=>some x142) some)):Option (GS Aj)).bind (fun(p98:(GS Aj))=>some p98)):Option (GS Aj)).bind (fun(p92:(GS Aj))=>(iter (fun(s144:(Int×(GS Ak)))=>if(decide (s144.1<(p92.l.length:Int)))=true then (Gg p92.l s144.1).bind fun x147=>let x152:=(Fb (κ:=(Ar UInt8 32)) (ν:=Aj) Br p41 x147.Key).getD Ac.z;(BV x152.Allowed x147.Allowed).bind fun x155=>if(!x155)=true then let x158:=(⟨x147.Key,false,true,false,(A1 32 T.u8).z,false,Az.z,false,0,true, .nil⟩:Ak);(MS 152 s144.2 [x158]).bind fun x160=>some (.inl (IntKind.i64.wrap (s144.1+1),x160)) else some (.inl (IntKind.i64.wrap (s144.1+1),s144.2)) else some (.inr (.inl s144.2))) (0,p72)).bind (Sum.elim (fun(p145:(GS Ak))=>(iter (fun(s165:(Int×(GS Ak)))=>if(decide (s165.1<(a1.Peers.l.length:Int)))=true then
 (Gg a1.Peers.l s165.1).bind fun x168=>let x173:=Fb (κ:=(Ar UInt8 32)) (ν:=Aj) Br p41 x168.Key;(FI (x173.getD Ac.z) x168 (!x173.isSome)).bind fun x181=>if x181.2=true then (MS 152 s165.2 [x181.1]).bind fun x188=>some (.inl (IntKind.i64.wrap (s165.1+1),x188)) else some (.inl (IntKind.i64.wrap (s165.1+1),s165.2)) else some (.inr (.inl s165.2))) (0,p145)).bind (Sum.elim (fun(p166:(GS Ak))=>let x191:=(⟨p20.1,p20.2.1,p20.2.2.1,p20.2.2.2.1,p20.2.2.2.2.1,p20.2.2.2.2.2,Ab.z.Replace,p166⟩:Av);some x191) some)) some))) some))))
noncomputable def L0(a:CP [Ad,Ad]):D2 tb Fo [Ad,Ad] [Ab] a:=Ai<|Au (B5 (t:=Ad) 2 r_ r_ Ah) fun _=>Au (B5 (t:=Ad) 3 r_ r_ Ah) fun _=>Au (Bi (t:=Ab) 4 r_ r_) fun x1=>At<|Au (Mr.u (Bi (t:=Ab) 5 r_ r_)) fun _=>Aa.turn (JF (j:=5) r_ (.iso (.prod .one (.prod .one (.prod .one (.prod .one (.prod .one (.prod .one (.prod .one .one)))))))))<|Aa.turn (TO (t:=Ae) (i:=5) (o:=38) (j:=3057) r_ r_ r_ r_)<|At<|AE<|Ai<|Aq (Ax (t:=Ad) (u:=Ad) Ah r_ r_ (A0 _) r_ r_) fun x2=>Aa.op (AN JQ (.one Ah)) fun x3=>Ap (BI Ah) fun x4=>Ag r_<|Aa.or 3 r_ r_ r_ (A6 (Ax (t:=Ad) (u:=Ad) Ah r_ r_ (A0 _) r_ r_) fun x5=>AD.op (AN JQ (.one Ah)) fun x6=>AJ (BI Ah) fun x7=>AD.nil Ah) fun x8=>Ag r_<|Af<|Aa.cond Ah (Ai<|Aa.frzRow 3057 r_ r_<|Aa.turn (G8 (j:=5) (t:=Ab) (⟨Ab.z.HasPrivate,Ab.z.Private,Ab.z.HasPort,Ab.z.Port,Ab.z.HasMark,Ab.z.Mark,Ab.z.Replace, .nil⟩:Av) r_ (.iso (.prod .one (.prod .one (.prod .one (.prod .one (.prod .one (.prod .one (.prod .one .one))))))) r_))<|Aq (Ax (t:=Ab) (u:=Ab) Ah r_ r_ (A0 _) r_ r_) fun x9=>Au (Be Ah Ah r_ r_ (A0 _) r_) fun x10=>Af<|Aa.ret (.one (FN r_ r_ r_ (A0 _) r_ r_))) (Ai<|Aq (Ax (t:=Ad) (u:=Ad) Ah r_ r_ (A0 _) r_ r_) fun x11=>Aq (Ax (t:=Ad) (u:=Ad) Ah r_ r_ (A0 _) r_ r_) fun x12=>Aa.op (AN I1 (.cons Ah<| .one Ah)) fun x13=>Ap (BI Ah) fun x14=>Ag r_<|Af<|Aa.cond Ah (Ai<|Aq (Ax (t:=Ad) (u:=Ad) Ah r_ r_ (A0 _) r_ r_) fun x15=>Aa.op (AN Mt (.one Ah)) fun x16=>Au (Be Ah Ah r_ r_ (A0 _) r_) fun x17=>Af<|Aa.ret (.one (FN r_ r_ r_ (A0 _) r_ r_))) (Aa.skip<|AR<|At<|Aq (Ax (t:=Ad) (u:=Ad) Ah r_ r_ (A0 _) r_ r_) fun x18=>
 Aq (Ax (t:=Ad) (u:=Ad) Ah r_ r_ (A0 _) r_ r_) fun x19=>Aa.inl (τ:=(Bool×(Ar UInt8 32)×Bool×Int×Bool×UInt32)) (φs:=[.cp 5 0, .val Ad x18, .val Ad x19]) (n:=0) (L:=[(2, .cp 2 0),(3, .cp 3 0),(4, .cp 4 0),(5, .cp 5 0)]) (Γr:=(fun p20=>⟨[],[(2, .cells [(35, .val Ad a.1)]),(3, .cells [(35, .val Ad a.2)]),(4, .cells [(39, .val Ab x1)]),(5, .cells [(1, .val T.b p20.1),(32, .val (A1 32 T.u8) p20.2.1),(1, .val T.b p20.2.2.1),(1, .val (T.int .i64) p20.2.2.2.1),(1, .val T.b p20.2.2.2.2.1),(1, .val T.u32 p20.2.2.2.2.2),(1, .val T.b Ab.z.Replace),(1, .own 3057)]),GL,MB,D0,Eh,Eg]⟩)) 2000000 (fun p20=>⟨[(39, .tup []),(2, .cp 2 0),(3, .cp 3 0),(4, .cp 4 0),(5, .cp 5 0)],[(2, .cells [(35, .val Ad a.1)]),(3, .cells [(35, .val Ad a.2)]),(4, .cells [(39, .val Ab x1)]),(5, .cells [(1, .val T.b p20.1),(32, .val (A1 32 T.u8) p20.2.1),(1, .val T.b p20.2.2.1),(1, .val (T.int .i64) p20.2.2.2.1),(1, .val T.b p20.2.2.2.2.1),(1, .val T.u32 p20.2.2.2.2.2),(1, .val T.b Ab.z.Replace),(1, .own 3057)]),GL]⟩) M7 r_ r_ r_ (Gc r_) (.cons (MJ Ah)<| .cons (MJ Ah)<| .cons (MJ Ah)<| .nil) sB r_ (Ai<|Au (B5 (t:=Ad) 1004 r_ r_ Ah) fun _=>Au (B5 (t:=Ad) 1005 r_ r_ Ah) fun _=>At<|Ai<|Al (Ay Ah)<|Aq (Ax (t:=Ad) (u:=(A1 32 T.u8)) Ah r_ r_ BH r_ r_) fun x21=>Al (Ay Ah)<|Aq (Ax (t:=Ad) (u:=(A1 32 T.u8)) Ah r_ r_ BH r_ r_) fun x22=>Ap (Fy (Ba 32 Bg.u8) r_ r_ Ah Ah) fun x23=>Af<|CA (τ:=(Bool×(Ar UInt8 32))) (fun p24=>⟨[(0, .cp 5 0),(4, .cp 1004 0),(5, .cp 1005 0)],[(2, .cells [(35, .val Ad a.1)]),(3, .cells [(35, .val Ad a.2)]),(4, .cells [(39, .val Ab x1)]),(5, .cells [(1, .val T.b p24.1),(32, .val (A1 32 T.u8) p24.2),(1, .val T.b Ab.z.HasPort),(1, .val (T.int .i64) Ab.z.Port),(1, .val T.b Ab.z.HasMark),(1, .val T.u32 Ab.z.Mark),(1, .val T.b Ab.z.Replace),(1, .own 3057)]),(1004, .cells [(35, .val Ad x18)]),(1005, .cells [(35, .val Ad x19)]),GL,MB,D0,Eh,Eg]⟩) (fun p24=>
 At<|Ai<|Al (Ay Ah)<|Aq (Ax (t:=Ad) (u:=(T.int .i64)) Ah r_ r_ BL r_ r_) fun x26=>Al (Ay Ah)<|Aq (Ax (t:=Ad) (u:=(T.int .i64)) Ah r_ r_ BL r_ r_) fun x27=>Ap (AK r_ Ah Ah) fun x28=>Af<|CA (τ:=(Bool×Int)) (fun p29=>⟨[(0, .cp 5 0),(4, .cp 1004 0),(5, .cp 1005 0)],[(2, .cells [(35, .val Ad a.1)]),(3, .cells [(35, .val Ad a.2)]),(4, .cells [(39, .val Ab x1)]),(5, .cells [(1, .val T.b p24.1),(32, .val (A1 32 T.u8) p24.2),(1, .val T.b p29.1),(1, .val (T.int .i64) p29.2),(1, .val T.b Ab.z.HasMark),(1, .val T.u32 Ab.z.Mark),(1, .val T.b Ab.z.Replace),(1, .own 3057)]),(1004, .cells [(35, .val Ad x18)]),(1005, .cells [(35, .val Ad x19)]),GL,MB,D0,Eh,Eg]⟩) (fun p29=>At<|Al (Ay Ah)<|Aq (Ax (t:=Ad) (u:=T.u32) Ah r_ r_ Cn r_ r_) fun x31=>Al (Ay Ah)<|Aq (Ax (t:=Ad) (u:=T.u32) Ah r_ r_ Cn r_ r_) fun x32=>Ap (NC (I:=IT.u32) r_ Ah Ah) fun x33=>Af<|Aa.cond Ah (Aa.regd 2<|AL r_ (AQ (IE r_))<|AL r_ (AQ (IE r_))<|AL r_ (Ay Ah)<|FE r_ (Ax (t:=Ad) (u:=T.u32) Ah r_ r_ Cn r_ r_)<|AL r_ (LC Ah)<|AL r_ (Ay Ah)<|Cf r_ (fun _=> .cons (Ax (t:=Ad) (u:=T.u32) Ah r_ r_ Cn r_ r_) Ah T0 (.nil)) (.nil) (Be Ah CM r_ r_ (A0 _) r_) fun x34=>AL r_ (LC Ah)<|AL r_ (Ay Ah)<|Cf r_ (fun _=> .nil) (.nil) (Be Ah Ah r_ r_ (A0 _) r_) fun x35=>Dk<|P9 (p24.1,p24.2,p29.1,p29.2,x34,x35) (.nil) sB) (Aa.skip<|P9 (p24.1,p24.2,p29.1,p29.2,Ab.z.HasMark,Ab.z.Mark) (.nil) sB))<|Aa.cond Ah (Aa.regd 2<|AL r_ (AQ (IE r_))<|AL r_ (AQ (IE r_))<|AL r_ (Ay Ah)<|FE r_ (Ax (t:=Ad) (u:=(T.int .i64)) Ah r_ r_ BL r_ r_)<|AL r_ (LC Ah)<|AL r_ (Ay Ah)<|
 Cf r_ (fun _=> .cons (Ax (t:=Ad) (u:=(T.int .i64)) Ah r_ r_ BL r_ r_) Ah EE (.nil)) (.nil) (Be Ah CM r_ r_ (A0 _) r_) fun x36=>AL r_ (LC Ah)<|AL r_ (Ay Ah)<|Cf r_ (fun _=> .nil) (.nil) (Be Ah Ah r_ r_ (A0 _) r_) fun x37=>Dk<|Cw (x36,x37) sB) (Aa.skip<|Cw (Ab.z.HasPort,Ab.z.Port) sB))<|Aa.cond Ah (Aa.regd 2<|AL r_ (AQ (IE r_))<|AL r_ (AQ (IE r_))<|AL r_ (Ay Ah)<|FE r_ (Ax (t:=Ad) (u:=(A1 32 T.u8)) Ah r_ r_ BH r_ r_)<|AL r_ (LC Ah)<|AL r_ (Ay Ah)<|Cf r_ (fun _=> .cons (Ax (t:=Ad) (u:=(A1 32 T.u8)) Ah r_ r_ BH r_ r_) Ah (HQ HT) (.nil)) (.nil) (Be Ah CM r_ r_ (A0 _) r_) fun x38=>AL r_ (LC Ah)<|AL r_ (Ay Ah)<|Cf r_ (fun _=> .nil) (.nil) (Be Ah Ah r_ r_ (A0 _) r_) fun x39=>Dk<|Cw (x38,x39) sB) (Aa.skip<|Cw (Ab.z.HasPrivate,Ab.z.Private) sB)) (fun p20=>B9 sB r_ .none trivial sB) (.one fun p20=>At<|Aa.regd 2<|DE r_ (Ax (t:=Ad) (u:=Ad) Ah r_ r_ (A0 _) r_ r_) fun x40=>AM.inl (τ:=(List ((Ar UInt8 32)×Aj))) (φs:=[.val Ad x40]) (n:=1) (L:=[(2, .cp 2 0),(3, .cp 3 0),(4, .cp 4 0),(5, .cp 5 0)]) (Γr:=(fun p41=>⟨[(0, .own 1006)],[(2, .cells [(35, .val Ad a.1)]),(3, .cells [(35, .val Ad a.2)]),(4, .cells [(39, .val Ab x1)]),(5, .cells [(1, .val T.b p20.1),(32, .val (A1 32 T.u8) p20.2.1),(1, .val T.b p20.2.2.1),(1, .val (T.int .i64) p20.2.2.2.1),(1, .val T.b p20.2.2.2.2.1),(1, .val T.u32 p20.2.2.2.2.2),(1, .val T.b Ab.z.Replace),(1, .own 3057)]),(1006, .dom (Cd (A1 32 T.u8) Ac) p41),GL,MB,D0,Eh,Eg]⟩)) r_ (.new (c:=⟨true,35,3,0,0,Ad,(A0 _).get a.2⟩) r_ (W6 (A0 _) r_ r_ r_ r_ r_)<| .nil) 2000000 (fun p41=>⟨[(41, .own 1006),(2, .cp 2 0),(3, .cp 3 0),(4, .cp 4 0),(5, .cp 5 0)],[(2, .cells [(35, .val Ad a.1)]),(3, .cells [(35, .val Ad a.2)]),(4, .cells [(39, .val Ab x1)]),(5, .cells [(1, .val T.b p20.1),(32, .val (A1 32 T.u8) p20.2.1),(1, .val T.b p20.2.2.1),(1, .val (T.int .i64) p20.2.2.2.1),(1, .val T.b p20.2.2.2.2.1),(1, .val T.u32 p20.2.2.2.2.2),(1, .val T.b Ab.z.Replace),(1, .own 3057)]),(1006, .dom (Cd (A1 32 T.u8) Ac) p41),GL]⟩) (fun _=> .nil) GJ r_ r_ r_ (Gc r_) (.cons (MJ Ah)<| .nil) sB r_ (
 Ai<|Au (B5 (t:=Ad) 1 r_ r_ Ah) fun _=>Al (AQ (VA r_ r_))<|At<|Au (Sm (K:=(A1 32 T.u8)) (V:=Ac) 1006 r_) fun _=>Ag r_<|At<|Ai<|Al (Ay Ah)<|Aq (Ax (t:=Ad) (u:=(BM (T.sl Ac))) Ah r_ r_ A5 r_ r_) fun x42=>Ap (C4 (AH Ah)) fun x43=>Al (AQ BA)<|Af<|AE<|Aa.loop (id:=0) (σ:=(Int×(List ((Ar UInt8 32)×Aj)))) (τ:=(List ((Ar UInt8 32)×Aj))) (fun s44=>⟨[(3, .own 1006),(8, .val (BM (T.sl Ac)) x42),(9, .val (T.int .i64) x43),(10, .val (T.int .i64) s44.1)],[(2, .cells [(35, .val Ad a.1)]),(3, .cells [(35, .val Ad a.2)]),(4, .cells [(39, .val Ab x1)]),(5, .cells [(1, .val T.b p20.1),(32, .val (A1 32 T.u8) p20.2.1),(1, .val T.b p20.2.2.1),(1, .val (T.int .i64) p20.2.2.2.1),(1, .val T.b p20.2.2.2.2.1),(1, .val T.u32 p20.2.2.2.2.2),(1, .val T.b Ab.z.Replace),(1, .own 3057)]),(1006, .dom (Cd (A1 32 T.u8) Ac) s44.2),GL,MB,D0,Eh,Eg]⟩) (fun p45=>⟨[(3, .own 1006)],[(2, .cells [(35, .val Ad a.1)]),(3, .cells [(35, .val Ad a.2)]),(4, .cells [(39, .val Ab x1)]),(5, .cells [(1, .val T.b p20.1),(32, .val (A1 32 T.u8) p20.2.1),(1, .val T.b p20.2.2.1),(1, .val (T.int .i64) p20.2.2.2.1),(1, .val T.b p20.2.2.2.2.1),(1, .val T.u32 p20.2.2.2.2.2),(1, .val T.b Ab.z.Replace),(1, .own 3057)]),(1006, .dom (Cd (A1 32 T.u8) Ac) p45),GL,MB,D0,Eh,Eg]⟩) (0,([]:List ((Ar UInt8 32)×Aj))) sB (fun _=>r_) (fun s44=>Ai<|Ap (AK r_ Ah Ah) fun x46=>At<|Aa.cond Ah (Aa.skip<|At<|AE<|Ai<|Aa.op (C0 r_ (AH Ah) Ah) fun x47=>Aq (DF r_ r_ Ah) fun x48=>Au (Bi (t:=Ac) 1005 r_ r_) fun x49=>Au (Be Ah Ah r_ r_ (A0 _) r_) fun x50=>Af<|Ag r_<|
 Al (Ay Ah)<|Aq (Ax (t:=Ac) (u:=(A1 32 T.u8)) Ah r_ r_ AF r_ r_) fun x51=>Aq (Ax (t:=Ac) (u:=Ac) Ah r_ r_ (A0 _) r_ r_) fun x52=>Au (PA (K:=(A1 32 T.u8)) (V:=Ac) ⟨_,(Ba 32 Bg.u8), .inl ⟨r_,r_⟩⟩ Ah r_ Ah Ah) fun x53=>AR<|Af<|Ap (BR (I:=(IT.int .i64)) Ah BA) fun x54=>Ag r_<|AY (x54,x53) sB) (Bb<|B1 s44.2 sB)) (fun p45=>Bc<|At<|Ag r_<|Ag r_<|Af<|BN p45 (.cons (Hz r_)<| .nil) sB)) (fun p41=>B9 sB r_ (.one r_) trivial sB) fun p41=>Tu 0 r_ r_ r_ r_ r_ (T.Uni.iso (T.Uni.prod (HQ HT) (T.Uni.prod EE (T.Uni.prod T0 (Si (T.Un0.sl (T.Un0.iso (T.Un0.prod (JE (T.Uni.un0 HT)) (T.Un0.prod (JE (T.Uni.un0 HT)) (T.Un0.prod (T.Un0.iso (T.Un0.prod (T.Un0.iso (T.Un0.prod (T.Uni.un0 EE) (JE (T.Uni.un0 HT)))) (T.Uni.un0 EE))) (T.Un0.prod (T.Uni.un0 EE) (T.Un0.prod (T.Uni.un0 Tz) (T.Un0.prod (T.Uni.un0 Tz) (T.Uni.un0 (Si (T.Un0.sl (T.Un0.iso (T.Un0.prod (T.Un0.iso (T.Un0.prod (T.Uni.un0 EE) (JE (T.Uni.un0 HT)))) (T.Uni.un0 EE))))))))))))))))))) (Ax (t:=Ad) (u:=Ad) Ah r_ r_ (A0 _) r_ r_)<|AM.inl (τ:=(List ((Ar UInt8 32)×Aj))) (φs:=[.val Ad ((A0 _).get a.2)]) (n:=1) (L:=[(2, .cp 2 0),(3, .cp 3 0),(4, .cp 4 0),(5, .cp 5 0),(41, .own 1006)]) (Γr:=(fun p55=>⟨[(0, .own 2006)],[(2, .cells [(35, .val Ad a.1)]),(3, .cells [(35, .val Ad a.2)]),(4, .cells [(39, .val Ab x1)]),(5, .cells [(1, .val T.b p20.1),(32, .val (A1 32 T.u8) p20.2.1),(1, .val T.b p20.2.2.1),(1, .val (T.int .i64) p20.2.2.2.1),(1, .val T.b p20.2.2.2.2.1),(1, .val T.u32 p20.2.2.2.2.2),(1, .val T.b Ab.z.Replace),(1, .own 3057)]),(1006, .dom (Cd (A1 32 T.u8) Ac) p41),(2006, .dom (Cd (A1 32 T.u8) Ac) p55),GL,MB,D0,Eh,Eg,Wg]⟩)) r_ (.nil) 2000000 (fun p55=>⟨[(43, .own 2006),(2, .cp 2 0),(3, .cp 3 0),(4, .cp 4 0),(5, .cp 5 0),(41, .own 1006)],[(2, .cells [(35, .val Ad a.1)]),(3, .cells [(35, .val Ad a.2)]),(4, .cells [(39, .val Ab x1)]),(5, .cells [(1, .val T.b p20.1),(32, .val (A1 32 T.u8) p20.2.1),(1, .val T.b p20.2.2.1),(1, .val (T.int .i64) p20.2.2.2.1),(1, .val T.b p20.2.2.2.2.1),(1, .val T.u32 p20.2.2.2.2.2),(1, .val T.b Ab.z.Replace),(1, .own 3057)]),(1006, .dom (Cd (A1 32 T.u8) Ac) p41),(2006, .dom (Cd (A1 32 T.u8) Ac) p55),GL]⟩) (fun _=> .nil) GJ r_ r_ r_ (Gc r_) (.cons (MJ Ah)<| .nil) sB r_ (
 Ai<|Au (B5 (t:=Ad) 1 r_ r_ Ah) fun _=>Al (AQ (VA r_ r_))<|At<|Au (Sm (K:=(A1 32 T.u8)) (V:=Ac) 2006 r_) fun _=>Ag r_<|At<|Ai<|Al (Ay Ah)<|Aq (Ax (t:=Ad) (u:=(BM (T.sl Ac))) Ah r_ r_ A5 r_ r_) fun x56=>Ap (C4 (AH Ah)) fun x57=>Al (AQ BA)<|Af<|AE<|Aa.loop (id:=0) (σ:=(Int×(List ((Ar UInt8 32)×Aj)))) (τ:=(List ((Ar UInt8 32)×Aj))) (fun s58=>⟨[(3, .own 2006),(8, .val (BM (T.sl Ac)) x56),(9, .val (T.int .i64) x57),(10, .val (T.int .i64) s58.1)],[(2, .cells [(35, .val Ad a.1)]),(3, .cells [(35, .val Ad a.2)]),(4, .cells [(39, .val Ab x1)]),(5, .cells [(1, .val T.b p20.1),(32, .val (A1 32 T.u8) p20.2.1),(1, .val T.b p20.2.2.1),(1, .val (T.int .i64) p20.2.2.2.1),(1, .val T.b p20.2.2.2.2.1),(1, .val T.u32 p20.2.2.2.2.2),(1, .val T.b Ab.z.Replace),(1, .own 3057)]),(1006, .dom (Cd (A1 32 T.u8) Ac) p41),(2006, .dom (Cd (A1 32 T.u8) Ac) s58.2),GL,MB,D0,Eh,Eg,Wg]⟩) (fun p59=>⟨[(3, .own 2006)],[(2, .cells [(35, .val Ad a.1)]),(3, .cells [(35, .val Ad a.2)]),(4, .cells [(39, .val Ab x1)]),(5, .cells [(1, .val T.b p20.1),(32, .val (A1 32 T.u8) p20.2.1),(1, .val T.b p20.2.2.1),(1, .val (T.int .i64) p20.2.2.2.1),(1, .val T.b p20.2.2.2.2.1),(1, .val T.u32 p20.2.2.2.2.2),(1, .val T.b Ab.z.Replace),(1, .own 3057)]),(1006, .dom (Cd (A1 32 T.u8) Ac) p41),(2006, .dom (Cd (A1 32 T.u8) Ac) p59),GL,MB,D0,Eh,Eg,Wg]⟩) (0,([]:List ((Ar UInt8 32)×Aj))) sB (fun _=>r_) (fun s58=>Ai<|Ap (AK r_ Ah Ah) fun x60=>At<|Aa.cond Ah (Aa.skip<|At<|AE<|Ai<|Aa.op (C0 r_ (AH Ah) Ah) fun x61=>Aq (DF r_ r_ Ah) fun x62=>Au (Bi (t:=Ac) 1005 r_ r_) fun x63=>
 Au (Be Ah Ah r_ r_ (A0 _) r_) fun x64=>Af<|Ag r_<|Al (Ay Ah)<|Aq (Ax (t:=Ac) (u:=(A1 32 T.u8)) Ah r_ r_ AF r_ r_) fun x65=>Aq (Ax (t:=Ac) (u:=Ac) Ah r_ r_ (A0 _) r_ r_) fun x66=>Au (PA (K:=(A1 32 T.u8)) (V:=Ac) ⟨_,(Ba 32 Bg.u8), .inl ⟨r_,r_⟩⟩ Ah r_ Ah Ah) fun x67=>AR<|Af<|Ap (BR (I:=(IT.int .i64)) Ah BA) fun x68=>Ag r_<|AY (x68,x67) sB) (Bb<|B1 s58.2 sB)) (fun p59=>Bc<|At<|Ag r_<|Ag r_<|Af<|BN p59 (.cons (Hz r_)<| .nil) sB)) (fun p55=>B9 sB r_ (.one r_) trivial sB) fun p55=>AL r_ (AQ (IE r_))<|AL r_ (AQ (IE r_))<|Dk<|At<|Ai<|Al (Ay Ah)<|Aq (Ax (t:=Ad) (u:=(BM (T.sl Ac))) Ah r_ r_ A5 r_ r_) fun x69=>Ap (C4 (AH Ah)) fun x70=>Al (AQ BA)<|Af<|AE<|Aa.loop (id:=1) (σ:=(Int×(GS Ak))) (τ:=(GS Ak)) (fun s71=>⟨[(3, .cp 3 0),(4, .cp 4 0),(5, .cp 5 0),(6, .own 1006),(7, .own 2006),(45, .val (BM (T.sl Ac)) x69),(46, .val (T.int .i64) x70),(47, .val (T.int .i64) s71.1)],[(3, .cells [(35, .val Ad a.2)]),(4, .cells [(39, .val Ab x1)]),(5, .cells [(1, .val T.b p20.1),(32, .val (A1 32 T.u8) p20.2.1),(1, .val T.b p20.2.2.1),(1, .val (T.int .i64) p20.2.2.2.1),(1, .val T.b p20.2.2.2.2.1),(1, .val T.u32 p20.2.2.2.2.2),(1, .val T.b Ab.z.Replace),(1, .own 3057)]),(1006, .dom (Cd (A1 32 T.u8) Ac) p41),(2006, .dom (Cd (A1 32 T.u8) Ac) p55),(3057, .row Ae s71.2)]⟩) (fun p72=>⟨[(3, .cp 3 0),(4, .cp 4 0),(5, .cp 5 0),(6, .own 1006)],[(3, .cells [(35, .val Ad a.2)]),(4, .cells [(39, .val Ab x1)]),(5, .cells [(1, .val T.b p20.1),(32, .val (A1 32 T.u8) p20.2.1),(1, .val T.b p20.2.2.1),(1, .val (T.int .i64) p20.2.2.2.1),(1, .val T.b p20.2.2.2.2.1),(1, .val T.u32 p20.2.2.2.2.2),(1, .val T.b Ab.z.Replace),(1, .own 3057)]),(1006, .dom (Cd (A1 32 T.u8) Ac) p41),(3057, .row Ae p72)]⟩) (0, .nil) sB (fun _=>r_) (fun s71=>
 Ai<|Ap (AK r_ Ah Ah) fun x73=>At<|Aa.cond Ah (Aa.skip<|At<|AE<|Ai<|Aa.op (C0 r_ (AH Ah) Ah) fun x74=>Aq (DF r_ r_ Ah) fun x75=>Au (Bi (t:=Ac) 9 r_ r_) fun x76=>Au (Be Ah Ah r_ r_ (A0 _) r_) fun x77=>At<|Ag r_<|Al (Ay Ah)<|Aq (Ax (t:=Ac) (u:=(A1 32 T.u8)) Ah r_ r_ AF r_ r_) fun x78=>Ap (LD (K:=(A1 32 T.u8)) (V:=Ac) ⟨_,(Ba 32 Bg.u8), .inl ⟨r_,r_⟩⟩ (.inl ⟨r_,r_⟩) Ah r_ Ah) fun x79=>Ag r_<|Aq (Gh Ah r_) fun x80=>Aq (Gh Ah r_) fun x81=>Au (Bi (t:=Ac) 10 r_ r_) fun x82=>Au (Be Ah Ah r_ r_ (A0 _) r_) fun x83=>Ag r_<|At<|Ag r_<|Ap (BI Ah) fun x84=>Af<|Aa.cond Ah (Al (Ay Ah)<|Al (FX Ah r_ r_ r_)<|Al (Ay Ah)<|Aq (Ax (t:=Ac) (u:=(A1 32 T.u8)) Ah r_ r_ AF r_ r_) fun x85=>Ap (Dy r_ r_ (.cons Bo r_ Ah<| .cons Cs r_ CM<| .nil _)) fun x86=>Ap (KQ (t:=Ae) (n:=1) r_ r_ (.cons r_ Ah<| .nil _)) fun x87=>Ej (I9 r_ Ah r_ (My Ah)) fun x88=>Al (Ay Ah)<|Au (Ms r_ r_ Ah Ah r_ r_) fun _=>AR<|Af<|Ap (BR (I:=(IT.int .i64)) Ah BA) fun x89=>Ag r_<|AY (x89,x88) sB) (Aa.skip<|AR<|Af<|Ap (BR (I:=(IT.int .i64)) Ah BA) fun x90=>Ag r_<|AY (x90,s71.2) sB)) (Bb<|B1 s71.2 sB)) (fun p72=>Bc<|At<|Ai<|Aq (Ax (t:=Ad) (u:=Ad) Ah r_ r_ (A0 _) r_ r_) fun x91=>Ag r_<|Aa.inl (τ:=(GS Aj)) (φs:=[.val Ad x91, .own 1006]) (n:=1) (L:=[(3, .cp 3 0),(4, .cp 4 0),(5, .cp 5 0),(6, .own 1006)]) (Γr:=(fun p92=>⟨[(0, .val (T.sl Ac) p92)],[(3, .cells [(35, .val Ad a.2)]),(4, .cells [(39, .val Ab x1)]),(5, .cells [(1, .val T.b p20.1),(32, .val (A1 32 T.u8) p20.2.1),(1, .val T.b p20.2.2.1),(1, .val (T.int .i64) p20.2.2.2.1),(1, .val T.b p20.2.2.2.2.1),(1, .val T.u32 p20.2.2.2.2.2),(1, .val T.b Ab.z.Replace),(1, .own 3057)]),(1006, .dom (Cd (A1 32 T.u8) Ac) p41),(3057, .row Ae p72),D0,Eh,Eg,GK]⟩)) 2000000 (fun p92=>⟨[(71, .val (T.sl Ac) p92),(3, .cp 3 0),(4, .cp 4 0),(5, .cp 5 0),(6, .own 1006)],[(3, .cells [(35, .val Ad a.2)]),(4, .cells [(39, .val Ab x1)]),(5, .cells [(1, .val T.b p20.1),(32, .val (A1 32 T.u8) p20.2.1),(1, .val T.b p20.2.2.1),(1, .val (T.int .i64) p20.2.2.2.1),(1, .val T.b p20.2.2.2.2.1),(1, .val T.u32 p20.2.2.2.2.2),(1, .val T.b Ab.z.Replace),(1, .own 3057)]),(1006, .dom (Cd (A1 32 T.u8) Ac) p41),(3057, .row Ae p72)]⟩) I7 r_ r_ r_ (Gc r_) (.cons (MJ Ah)<| .cons (MJ Ah)<| .nil) sB r_ (
 Ai<|Au (B5 (t:=Ad) 2 r_ r_ Ah) fun _=>Au (W4 1003 r_ r_ r_ Ah) fun _=>Al (AQ (GF (t:=Ac)))<|At<|Al (Ay Ah)<|Aq (Ax (t:=Ad) (u:=(BM (T.sl Ac))) Ah r_ r_ A5 r_ r_) fun x93=>Aa.inl (τ:=(GS Aj)) (φs:=[.val (T.sl Ac) x93]) (n:=1) (L:=[(3, .cp 1003 0)]) (Γr:=(fun p94=>⟨[(0, .own 2002)],[(3, .cells [(35, .val Ad a.2)]),(4, .cells [(39, .val Ab x1)]),(5, .cells [(1, .val T.b p20.1),(32, .val (A1 32 T.u8) p20.2.1),(1, .val T.b p20.2.2.1),(1, .val (T.int .i64) p20.2.2.2.1),(1, .val T.b p20.2.2.2.2.1),(1, .val T.u32 p20.2.2.2.2.2),(1, .val T.b Ab.z.Replace),(1, .own 3057)]),GZ,(1006, .dom (Cd (A1 32 T.u8) Ac) p41),(2002, .row Ac p94),(3057, .row Ae p72),D0,Eh,Eg,GK,(2100003, .ghost (.cp 1003 0))]⟩)) 2100000 (fun p94=>⟨[(7, .own 2002),(3, .cp 1003 0)],[(3, .cells [(35, .val Ad a.2)]),(4, .cells [(39, .val Ab x1)]),(5, .cells [(1, .val T.b p20.1),(32, .val (A1 32 T.u8) p20.2.1),(1, .val T.b p20.2.2.1),(1, .val (T.int .i64) p20.2.2.2.1),(1, .val T.b p20.2.2.2.2.1),(1, .val T.u32 p20.2.2.2.2.2),(1, .val T.b Ab.z.Replace),(1, .own 3057)]),GZ,(1006, .dom (Cd (A1 32 T.u8) Ac) p41),(2002, .row Ac p94),(3057, .row Ae p72),D0,Eh,Eg,GK]⟩) EZ r_ r_ r_ (Gc r_) (.cons (MJ (AH Ah))<| .nil) sB r_ (Ai<|Al (AQ (GF (t:=Ac)))<|Aa.turn (born (n:=2) (j:=1002) r_ r_)<|At<|Ai<|Ag r_<|Ap (NB (neg:=false) Ah) fun x95=>Af<|Aa.cond Ah (Ai<|Al (AQ (GF (t:=Ac)))<|Aa.turn (born (n:=2) (j:=2002) r_ r_)<|Af<|BN .nil (.cons (Hz r_)<| .nil) sB) (Aa.skip<|At<|Au (W5 (t:=Ac) (n:=0) 2002 r_ r_ (.nil _) r_) fun x96=>Ag r_<|
 Ej (I9 r_ Ah r_ (My Ah)) fun x97=>Ag r_<|Af<|BN x97 (.cons (Hz r_)<| .nil) sB)) (fun p94=>B9 sB r_ (.one r_) trivial sB) (.one fun p94=>TW (XY (φs:=[]) (ψs:=[.cp 1003 0]) 3400320 (.nil) (.cons Ah<| .nil) r_ sB (js:=[]) (ks:=[3400320]) r_ r_)<|Aa.inl (τ:=(GS Aj)) (φs:=[.own 2002, .fnv (.func Bp) [] [3400320]]) (n:=1) (L:=[]) (Γr:=(fun p98=>⟨[(0, .val (T.sl Ac) p98)],[(3, .cells [(35, .val Ad a.2)]),(4, .cells [(39, .val Ab x1)]),(5, .cells [(1, .val T.b p20.1),(32, .val (A1 32 T.u8) p20.2.1),(1, .val T.b p20.2.2.1),(1, .val (T.int .i64) p20.2.2.2.1),(1, .val T.b p20.2.2.2.2.1),(1, .val T.u32 p20.2.2.2.2.2),(1, .val T.b Ab.z.Replace),(1, .own 3057)]),(1006, .dom (Cd (A1 32 T.u8) Ac) p41),(3057, .row Ae p72),D0,Eh,Eg,GK]⟩)) 2100000 (fun p98=>⟨[(9, .val (T.sl Ac) p98)],[(3, .cells [(35, .val Ad a.2)]),(4, .cells [(39, .val Ab x1)]),(5, .cells [(1, .val T.b p20.1),(32, .val (A1 32 T.u8) p20.2.1),(1, .val T.b p20.2.2.1),(1, .val (T.int .i64) p20.2.2.2.1),(1, .val T.b p20.2.2.2.2.1),(1, .val T.u32 p20.2.2.2.2.2),(1, .val T.b Ab.z.Replace),(1, .own 3057)]),(1006, .dom (Cd (A1 32 T.u8) Ac) p41),(3057, .row Ae p72),D0,Eh,Eg,GK]⟩) DW r_ r_ r_ (Gc r_) (.cons (MJ Ah)<| .cons (MJ Ah)<| .nil) trivial r_ (Ai<|Al (AQ (GF (t:=Ac)))<|At<|Ag r_<|Ag r_<|Aa.inl (τ:=Int) (φs:=[.own 2002, .fnv (.func Bp) [] [3400320]]) (n:=1) (L:=[(0, .own 2002),JK]) (Γr:=(fun p99=>⟨[(0, .val (T.int .i64) p99)],[(3, .cells [(35, .val Ad a.2)]),(4, .cells [(39, .val Ab x1)]),(5, .cells [(1, .val T.b p20.1),(32, .val (A1 32 T.u8) p20.2.1),(1, .val T.b p20.2.2.1),(1, .val (T.int .i64) p20.2.2.2.1),(1, .val T.b p20.2.2.2.2.1),(1, .val T.u32 p20.2.2.2.2.2),(1, .val T.b Ab.z.Replace),(1, .own 3057)]),GZ,(1006, .dom (Cd (A1 32 T.u8) Ac) p41),(2002, .row Ac p94),(3057, .row Ae p72),D0,Eh,Eg,GK,P1,MA,IB]⟩)) 2200000 (fun p99=>⟨[(10, .val (T.int .i64) p99),(0, .own 2002),JK],[(3, .cells [(35, .val Ad a.2)]),(4, .cells [(39, .val Ab x1)]),(5, .cells [(1, .val T.b p20.1),(32, .val (A1 32 T.u8) p20.2.1),(1, .val T.b p20.2.2.1),(1, .val (T.int .i64) p20.2.2.2.1),(1, .val T.b p20.2.2.2.2.1),(1, .val T.u32 p20.2.2.2.2.2),(1, .val T.b Ab.z.Replace),(1, .own 3057)]),GZ,(1006, .dom (Cd (A1 32 T.u8) Ac) p41),(2002, .row Ac p94),(3057, .row Ae p72),D0,Eh,Eg,GK,IB]⟩) Ee r_ r_ r_ (Gc r_) (.cons (MJ Ah)<| .cons (MJ Ah)<| .nil) sB r_ (
 Ai<|Al (AQ BA)<|At<|Ai<|Ag r_<|Ap (LE Ah r_) fun x100=>Al (AQ BA)<|Af<|AE<|Aa.loop (id:=0) (σ:=Int) (τ:=Unit) (fun s101=>⟨[(0, .own 2002),JK,(7, .val (T.int .i64) x100),(8, .val (T.int .i64) s101)],[(3, .cells [(35, .val Ad a.2)]),(4, .cells [(39, .val Ab x1)]),(5, .cells [(1, .val T.b p20.1),(32, .val (A1 32 T.u8) p20.2.1),(1, .val T.b p20.2.2.1),(1, .val (T.int .i64) p20.2.2.2.1),(1, .val T.b p20.2.2.2.2.1),(1, .val T.u32 p20.2.2.2.2.2),(1, .val T.b Ab.z.Replace),(1, .own 3057)]),GZ,(1006, .dom (Cd (A1 32 T.u8) Ac) p41),(2002, .row Ac p94),(3057, .row Ae p72),D0,Eh,Eg,GK,P1,MA,IB]⟩) (fun p102=>⟨[],[(3, .cells [(35, .val Ad a.2)]),(4, .cells [(39, .val Ab x1)]),(5, .cells [(1, .val T.b p20.1),(32, .val (A1 32 T.u8) p20.2.1),(1, .val T.b p20.2.2.1),(1, .val (T.int .i64) p20.2.2.2.1),(1, .val T.b p20.2.2.2.2.1),(1, .val T.u32 p20.2.2.2.2.2),(1, .val T.b Ab.z.Replace),(1, .own 3057)]),GZ,(1006, .dom (Cd (A1 32 T.u8) Ac) p41),(2002, .row Ac p94),(3057, .row Ae p72),D0,Eh,Eg,GK,P1,MA,IB]⟩) 0 sB (fun _=>r_) (fun s101=>Ai<|Ap (AK r_ Ah Ah) fun x103=>At<|Aa.cond Ah (Aa.skip<|At<|AE<|Ai<|Ag r_<|Ag r_<|At<|Ag r_<|Ag r_<|Ag r_<|Aa.op (Ku r_ Ah r_ Ah) fun x104=>Aa.op (R9 (t:=Ac) (u:=Ac) r_ r_ (A0 _) Ah r_) fun x105=>Aa.inl (τ:=Bool) (φs:=[.val Ac x105, .cp 1003 0]) (n:=1) (L:=[(0, .own 2002),JK,(5, .val (T.int .i64) s101),(7, .val (T.int .i64) x100),(8, .val (T.int .i64) s101)]) (Γr:=(fun p106=>⟨[(0, .val T.b p106)],[(3, .cells [(35, .val Ad a.2)]),(4, .cells [(39, .val Ab x1)]),(5, .cells [(1, .val T.b p20.1),(32, .val (A1 32 T.u8) p20.2.1),(1, .val T.b p20.2.2.1),(1, .val (T.int .i64) p20.2.2.2.1),(1, .val T.b p20.2.2.2.2.1),(1, .val T.u32 p20.2.2.2.2.2),(1, .val T.b Ab.z.Replace),(1, .own 3057)]),GZ,(1006, .dom (Cd (A1 32 T.u8) Ac) p41),(2002, .row Ac p94),(3057, .row Ae p72),D0,Eh,Eg,GK,P1,MA,(2300000, .ghost (.own 2002)),Zw,(2300005, .ghost (.val (T.int .i64) s101)),(2300007, .ghost (.val (T.int .i64) x100)),(2300008, .ghost (.val (T.int .i64) s101)),IB]⟩)) 2300000 (fun p106=>⟨[(16, .val T.b p106),(0, .own 2002),JK,(5, .val (T.int .i64) s101),(7, .val (T.int .i64) x100),(8, .val (T.int .i64) s101)],[(3, .cells [(35, .val Ad a.2)]),(4, .cells [(39, .val Ab x1)]),(5, .cells [(1, .val T.b p20.1),(32, .val (A1 32 T.u8) p20.2.1),(1, .val T.b p20.2.2.1),(1, .val (T.int .i64) p20.2.2.2.1),(1, .val T.b p20.2.2.2.2.1),(1, .val T.u32 p20.2.2.2.2.2),(1, .val T.b Ab.z.Replace),(1, .own 3057)]),GZ,(1006, .dom (Cd (A1 32 T.u8) Ac) p41),(2002, .row Ac p94),(3057, .row Ae p72),D0,Eh,Eg,GK,P1,MA,IB]⟩) Ef r_ r_ r_ (MR Ah r_) (.cons (MJ Ah)<| .cons (Z9 r_)<| .nil) sB r_ (
 Ai<|Au (B5 (t:=Ac) 2 r_ r_ Ah) fun _=>Al (AQ CM)<|At<|Al (FX Ah r_ r_ r_)<|Al (Ay Ah)<|Aq (Ax (t:=Ac) (u:=(A1 32 T.u8)) Ah r_ r_ AF r_ r_) fun x107=>Ap (LD (K:=(A1 32 T.u8)) (V:=Ac) ⟨_,(Ba 32 Bg.u8), .inl ⟨r_,r_⟩⟩ (.inl ⟨r_,r_⟩) Ah r_ Ah) fun x108=>Ag r_<|Aq (Gh Ah r_) fun x109=>Aq (Gh Ah r_) fun x110=>Au (Bi (t:=Ac) 1004 r_ r_) fun x111=>Au (Be Ah Ah r_ r_ (A0 _) r_) fun x112=>Ag r_<|At<|Ag r_<|Ap (BI Ah) fun x113=>Ag r_<|Af<|BN x113 (.cons (Hz r_)<| .nil) sB) (fun p106=>B9 sB r_ (.one r_) trivial sB) (.one fun p106=>Af<|Aa.cond Ah (Ai<|Ag r_<|Ag r_<|Af<|Bq<|BN s101 (.cons (Hz r_)<| .nil) sB) (Aa.skip<|AR<|Af<|Ap (BR (I:=(IT.int .i64)) Ah BA) fun x114=>Ag r_<|AY x114 sB))) (Bb<|B1 () sB)) (fun p102=>Bc<|At<|Al (AQ BA)<|Af<|BN (-1) (.cons (Hz r_)<| .nil) sB)) (fun p99=>B9 sB r_ (.one r_) trivial sB) (.one fun p99=>Ag r_<|At<|Ai<|Ag r_<|Ap (AK r_ Ah BA) fun x115=>Af<|Aa.cond Ah (Ai<|Ag r_<|Ag r_<|Af<|Aa.frzRow 2002 r_ r_<|BN p94 (.cons (Hz r_)<| .nil) sB) (Aa.skip<|At<|Ai<|Ag r_<|Ap (BR (I:=(IT.int .i64)) Ah BA) fun x116=>Ag r_<|Af<|AE<|Aa.loop (id:=0) (σ:=(Int×Int×(GS Aj))) (τ:=(Int×(GS Aj))) (fun s117=>⟨[(0, .own 2002),JK,(5, .val (T.int .i64) s117.1),(6, .val (T.int .i64) s117.2.1)],[(3, .cells [(35, .val Ad a.2)]),(4, .cells [(39, .val Ab x1)]),(5, .cells [(1, .val T.b p20.1),(32, .val (A1 32 T.u8) p20.2.1),(1, .val T.b p20.2.2.1),(1, .val (T.int .i64) p20.2.2.2.1),(1, .val T.b p20.2.2.2.2.1),(1, .val T.u32 p20.2.2.2.2.2),(1, .val T.b Ab.z.Replace),(1, .own 3057)]),GZ,(1006, .dom (Cd (A1 32 T.u8) Ac) p41),(2002, .row Ac s117.2.2),(3057, .row Ae p72),D0,Eh,Eg,GK,IB]⟩) (fun p118=>⟨[(0, .own 2002),(5, .val (T.int .i64) p118.1)],[(3, .cells [(35, .val Ad a.2)]),(4, .cells [(39, .val Ab x1)]),(5, .cells [(1, .val T.b p20.1),(32, .val (A1 32 T.u8) p20.2.1),(1, .val T.b p20.2.2.1),(1, .val (T.int .i64) p20.2.2.2.1),(1, .val T.b p20.2.2.2.2.1),(1, .val T.u32 p20.2.2.2.2.2),(1, .val T.b Ab.z.Replace),(1, .own 3057)]),(1006, .dom (Cd (A1 32 T.u8) Ac) p41),(2002, .row Ac p118.2),(3057, .row Ae p72),D0,Eh,Eg,GK]⟩) (p99,x116,p94) sB (fun _=>r_) (fun s117=>
 Ai<|Ai<|Ag r_<|Ag r_<|Ap (LE Ah r_) fun x119=>Ap (AK r_ Ah Ah) fun x120=>Af<|Aa.cond Ah (Aa.skip<|At<|AE<|Ai<|Ag r_<|Ag r_<|Aa.op (Ku r_ Ah r_ Ah) fun x121=>Aa.op (R9 (t:=Ac) (u:=Ac) r_ r_ (A0 _) Ah r_) fun x122=>Au (Bi (t:=Ac) 7 r_ r_) fun x123=>Au (Be Ah Ah r_ r_ (A0 _) r_) fun x124=>At<|Ag r_<|Aq (Ax (t:=Ac) (u:=Ac) Ah r_ r_ (A0 _) r_ r_) fun x125=>Aa.inl (τ:=Bool) (φs:=[.val Ac x125, .cp 1003 0]) (n:=1) (L:=[(0, .own 2002),JK,(5, .val (T.int .i64) s117.1),(6, .val (T.int .i64) s117.2.1),(7, .cp 7 0)]) (Γr:=(fun p126=>⟨[(0, .val T.b p126)],[(3, .cells [(35, .val Ad a.2)]),(4, .cells [(39, .val Ab x1)]),(5, .cells [(1, .val T.b p20.1),(32, .val (A1 32 T.u8) p20.2.1),(1, .val T.b p20.2.2.1),(1, .val (T.int .i64) p20.2.2.2.1),(1, .val T.b p20.2.2.2.2.1),(1, .val T.u32 p20.2.2.2.2.2),(1, .val T.b Ab.z.Replace),(1, .own 3057)]),(7, .cells [(86, .val Ac x124)]),GZ,(1006, .dom (Cd (A1 32 T.u8) Ac) p41),(2002, .row Ac s117.2.2),(3057, .row Ae p72),D0,Eh,Eg,GK,P1,MA,(2200005, .ghost (.val (T.int .i64) s117.1)),(2200006, .ghost (.val (T.int .i64) s117.2.1)),(2200007, .ghost (.cp 7 0)),IB]⟩)) 2200000 (fun p126=>⟨[(28, .val T.b p126),(0, .own 2002),JK,(5, .val (T.int .i64) s117.1),(6, .val (T.int .i64) s117.2.1),(7, .cp 7 0)],[(3, .cells [(35, .val Ad a.2)]),(4, .cells [(39, .val Ab x1)]),(5, .cells [(1, .val T.b p20.1),(32, .val (A1 32 T.u8) p20.2.1),(1, .val T.b p20.2.2.1),(1, .val (T.int .i64) p20.2.2.2.1),(1, .val T.b p20.2.2.2.2.1),(1, .val T.u32 p20.2.2.2.2.2),(1, .val T.b Ab.z.Replace),(1, .own 3057)]),(7, .cells [(86, .val Ac x124)]),GZ,(1006, .dom (Cd (A1 32 T.u8) Ac) p41),(2002, .row Ac s117.2.2),(3057, .row Ae p72),D0,Eh,Eg,GK,IB]⟩) Ef r_ r_ r_ (MR Ah r_) (.cons (MJ Ah)<| .cons (Z9 r_)<| .nil) sB r_ (
 Ai<|Au (B5 (t:=Ac) 2 r_ r_ Ah) fun _=>Al (AQ CM)<|At<|Al (FX Ah r_ r_ r_)<|Al (Ay Ah)<|Aq (Ax (t:=Ac) (u:=(A1 32 T.u8)) Ah r_ r_ AF r_ r_) fun x127=>Ap (LD (K:=(A1 32 T.u8)) (V:=Ac) ⟨_,(Ba 32 Bg.u8), .inl ⟨r_,r_⟩⟩ (.inl ⟨r_,r_⟩) Ah r_ Ah) fun x128=>Ag r_<|Aq (Gh Ah r_) fun x129=>Aq (Gh Ah r_) fun x130=>Au (Bi (t:=Ac) 1004 r_ r_) fun x131=>Au (Be Ah Ah r_ r_ (A0 _) r_) fun x132=>Ag r_<|At<|Ag r_<|Ap (BI Ah) fun x133=>Ag r_<|Af<|BN x133 (.cons (Hz r_)<| .nil) sB) (fun p126=>B9 sB r_ (.one r_) trivial sB) (.one fun p126=>Ap (BI Ah) fun x134=>Af<|Aa.cond Ah (Ai<|Ag r_<|Ag r_<|Aq (Ax (t:=Ac) (u:=Ac) Ah r_ r_ (A0 _) r_ r_) fun x135=>Aa.op (Ku r_ Ah r_ Ah) fun x136=>Ej (XW (t:=Ac) (u:=Ac) r_ (A0 _) Ah Ah r_) fun x137=>Af<|Ag r_<|Ap (BR (I:=(IT.int .i64)) Ah BA) fun x138=>Ag r_<|AR<|Af<|Ag r_<|Ap (BR (I:=(IT.int .i64)) Ah BA) fun x139=>Ag r_<|AY (x138,x139,x137) sB) (Aa.skip<|AR<|Af<|Ag r_<|Ap (BR (I:=(IT.int .i64)) Ah BA) fun x140=>Ag r_<|AY (s117.1,x140,s117.2.2) sB))) (Bb<|B1 (s117.1,s117.2.2) sB)) (fun p118=>Bc<|At<|Ag r_<|Ag r_<|Aa.clr Ah r_ r_ r_ Ah fun x141=>At<|Ag r_<|Ag r_<|Aa.frzRow 2002 r_ r_<|Aa.op (XR r_ Ah .none (.some Ah)) fun x142=>Ag r_<|Af<|BN x142 (.cons (Hz r_)<| .nil) sB)))) (fun p98=>B9 sB r_ (.one r_) trivial trivial) (.one fun p98=>Ag r_<|Af<|BN p98 (.cons (Hz r_)<| .nil) sB))) (fun p92=>B9 sB r_ (.one r_) trivial sB) (.one fun p92=>Ap (C4 Ah) fun x143=>Al (AQ BA)<|Af<|AE<|Aa.loop (id:=3) (σ:=(Int×(GS Ak))) (τ:=(GS Ak)) (fun s144=>⟨[(3, .cp 3 0),(4, .cp 4 0),(5, .cp 5 0),(6, .own 1006),(71, .val (T.sl Ac) p92),(72, .val (T.int .i64) x143),(73, .val (T.int .i64) s144.1)],[(3, .cells [(35, .val Ad a.2)]),(4, .cells [(39, .val Ab x1)]),(5, .cells [(1, .val T.b p20.1),(32, .val (A1 32 T.u8) p20.2.1),(1, .val T.b p20.2.2.1),(1, .val (T.int .i64) p20.2.2.2.1),(1, .val T.b p20.2.2.2.2.1),(1, .val T.u32 p20.2.2.2.2.2),(1, .val T.b Ab.z.Replace),(1, .own 3057)]),(1006, .dom (Cd (A1 32 T.u8) Ac) p41),(3057, .row Ae s144.2)]⟩) (fun p145=>⟨[(3, .cp 3 0),(4, .cp 4 0),(5, .cp 5 0),(6, .own 1006)],[(3, .cells [(35, .val Ad a.2)]),(4, .cells [(39, .val Ab x1)]),(5, .cells [(1, .val T.b p20.1),(32, .val (A1 32 T.u8) p20.2.1),(1, .val T.b p20.2.2.1),(1, .val (T.int .i64) p20.2.2.2.1),(1, .val T.b p20.2.2.2.2.1),(1, .val T.u32 p20.2.2.2.2.2),(1, .val T.b Ab.z.Replace),(1, .own 3057)]),(1006, .dom (Cd (A1 32 T.u8) Ac) p41),(3057, .row Ae p145)]⟩) (0,p72) sB (fun _=>r_) (fun s144=>
 Ai<|Ap (AK r_ Ah Ah) fun x146=>At<|Aa.cond Ah (Aa.skip<|At<|AE<|Ai<|Aa.op (C0 r_ Ah Ah) fun x147=>Aq (DF r_ r_ Ah) fun x148=>Au (Bi (t:=Ac) 13 r_ r_) fun x149=>Au (Be Ah Ah r_ r_ (A0 _) r_) fun x150=>At<|Ag r_<|Al (Ay Ah)<|Aq (Ax (t:=Ac) (u:=(A1 32 T.u8)) Ah r_ r_ AF r_ r_) fun x151=>Ap (VP (K:=(A1 32 T.u8)) (V:=Ac) ⟨_,(Ba 32 Bg.u8), .inl ⟨r_,r_⟩⟩ (.inl ⟨r_,r_⟩) Ah r_ Ah) fun x152=>Aq (Zt AU r_ r_ r_ Ah) fun x153=>Al (Ay Ah)<|Aq (Ax (t:=Ac) (u:=(BM (T.sl An))) Ah r_ r_ AU r_ r_) fun x154=>Aa.op (AN Em (.cons (AH Ah)<| .one (AH Ah))) fun x155=>Ap (BI Ah) fun x156=>Af<|Aa.cond Ah (Al (Ay Ah)<|Al (FX Ah r_ r_ r_)<|Al (Ay Ah)<|Aq (Ax (t:=Ac) (u:=(A1 32 T.u8)) Ah r_ r_ AF r_ r_) fun x157=>Ap (Dy r_ r_ (.cons Bo r_ Ah<| .cons BW r_ CM<| .cons BP r_ CM<| .nil _)) fun x158=>Ap (KQ (t:=Ae) (n:=1) r_ r_ (.cons r_ Ah<| .nil _)) fun x159=>Ej (I9 r_ Ah r_ (My Ah)) fun x160=>Al (Ay Ah)<|Au (Ms r_ r_ Ah Ah r_ r_) fun _=>AR<|Af<|Ap (BR (I:=(IT.int .i64)) Ah BA) fun x161=>Ag r_<|AY (x161,x160) sB) (Aa.skip<|AR<|Af<|Ap (BR (I:=(IT.int .i64)) Ah BA) fun x162=>Ag r_<|AY (x162,s144.2) sB)) (Bb<|B1 s144.2 sB)) (fun p145=>Bc<|At<|Ai<|Al (Ay Ah)<|Aq (Ax (t:=Ad) (u:=(BM (T.sl Ac))) Ah r_ r_ A5 r_ r_) fun x163=>Ap (C4 (AH Ah)) fun x164=>Al (AQ BA)<|Af<|AE<|Aa.loop (id:=5) (σ:=(Int×(GS Ak))) (τ:=(GS Ak)) (fun s165=>⟨[(4, .cp 4 0),(5, .cp 5 0),(6, .own 1006),(96, .val (BM (T.sl Ac)) x163),(97, .val (T.int .i64) x164),(98, .val (T.int .i64) s165.1)],[(4, .cells [(39, .val Ab x1)]),(5, .cells [(1, .val T.b p20.1),(32, .val (A1 32 T.u8) p20.2.1),(1, .val T.b p20.2.2.1),(1, .val (T.int .i64) p20.2.2.2.1),(1, .val T.b p20.2.2.2.2.1),(1, .val T.u32 p20.2.2.2.2.2),(1, .val T.b Ab.z.Replace),(1, .own 3057)]),(1006, .dom (Cd (A1 32 T.u8) Ac) p41),(3057, .row Ae s165.2)]⟩) (fun p166=>⟨[(4, .cp 4 0),(5, .cp 5 0)],[(4, .cells [(39, .val Ab x1)]),(5, .cells [(1, .val T.b p20.1),(32, .val (A1 32 T.u8) p20.2.1),(1, .val T.b p20.2.2.1),(1, .val (T.int .i64) p20.2.2.2.1),(1, .val T.b p20.2.2.2.2.1),(1, .val T.u32 p20.2.2.2.2.2),(1, .val T.b Ab.z.Replace),(1, .own 3057)]),(3057, .row Ae p166)]⟩) (0,p145) sB (fun _=>r_) (fun s165=>
 Ai<|Ap (AK r_ Ah Ah) fun x167=>At<|Aa.cond Ah (Aa.skip<|At<|AE<|Ai<|Aa.op (C0 r_ (AH Ah) Ah) fun x168=>Aq (DF r_ r_ Ah) fun x169=>Au (Bi (t:=Ac) 15 r_ r_) fun x170=>Au (Be Ah Ah r_ r_ (A0 _) r_) fun x171=>At<|Ag r_<|Al (Ay Ah)<|Aq (Ax (t:=Ac) (u:=(A1 32 T.u8)) Ah r_ r_ AF r_ r_) fun x172=>Ap (LD (K:=(A1 32 T.u8)) (V:=Ac) ⟨_,(Ba 32 Bg.u8), .inl ⟨r_,r_⟩⟩ (.inl ⟨r_,r_⟩) Ah r_ Ah) fun x173=>Ag r_<|Aq (Gh Ah r_) fun x174=>Aq (Gh Ah r_) fun x175=>Au (Bi (t:=Ac) 16 r_ r_) fun x176=>Au (Be Ah Ah r_ r_ (A0 _) r_) fun x177=>Ag r_<|At<|Aq (Ax (t:=Ac) (u:=Ac) Ah r_ r_ (A0 _) r_ r_) fun x178=>Aq (Ax (t:=Ac) (u:=Ac) Ah r_ r_ (A0 _) r_ r_) fun x179=>Ag r_<|Ap (BI Ah) fun x180=>Aa.op (TJ Lw (.cons Ah<| .cons Ah<| .one Ah)) fun x181=>Ag r_<|Aq (Gh Ah r_) fun x182=>Aq (Gh Ah r_) fun x183=>Au (Bi (t:=Ae) 18 r_ r_) fun x184=>Au (Be Ah Ah r_ r_ (A0 _) r_) fun x185=>Ag r_<|At<|Ag r_<|Af<|Aa.cond Ah (Al (Ay Ah)<|Al (FX Ah r_ r_ r_)<|Aq (Ax (t:=Ae) (u:=Ae) Ah r_ r_ (A0 _) r_ r_) fun x186=>Ap (KQ (t:=Ae) (n:=1) r_ r_ (.cons r_ Ah<| .nil _)) fun x187=>Ej (I9 r_ Ah r_ (My Ah)) fun x188=>Al (Ay Ah)<|Au (Ms r_ r_ Ah Ah r_ r_) fun _=>AR<|Af<|Ap (BR (I:=(IT.int .i64)) Ah BA) fun x189=>Ag r_<|AY (x189,x188) sB) (Aa.skip<|AR<|Af<|Ap (BR (I:=(IT.int .i64)) Ah BA) fun x190=>Ag r_<|AY (x190,s165.2) sB)) (Bb<|B1 s165.2 sB)) (fun p166=>Bc<|At<|Aa.frzRow 3057 r_ r_<|Aa.turn (G8 (j:=5) (t:=Ab) (⟨p20.1,p20.2.1,p20.2.2.1,p20.2.2.2.1,p20.2.2.2.2.1,p20.2.2.2.2.2,Ab.z.Replace,p166⟩:Av) r_ (.iso (.prod .one (.prod .one (.prod .one (.prod .one (.prod .one (.prod .one (.prod .one .one))))))) r_))<|
 Aq (Ax (t:=Ab) (u:=Ab) Ah r_ r_ (A0 _) r_ r_) fun x191=>Au (Be Ah Ah r_ r_ (A0 _) r_) fun x192=>Af<|Aa.ret (.one (FN r_ r_ r_ (A0 _) r_ r_)))))))))
theorem FU:Spec tb C5 [Ad,Ad] [Ab] (fun a=>DR a.1 a.2):=
 Spec.of NK r_ r_ r_ L0
noncomputable def Dn(a0:Av):Option Bool:=(BS (!a0.HasPrivate) (some (!a0.HasPort))).bind fun x5=>(BS x5 (some (!a0.HasMark))).bind fun x8=>(BS x8 (some (!a0.Replace))).bind fun x11=>(BS x11 (some (decide ((a0.Peers.l.length:Int)=0)))).bind fun x15=>some x15
noncomputable def L2(a:CP [Ab]):D2 tb Fs [Ab] [T.b] a:=Ai<|Au (B5 (t:=Ab) 1 r_ r_ Ah) fun _=>Al (AQ CM)<|At<|Al (Ay Ah)<|Aq (Ax (t:=Ab) (u:=T.b) Ah r_ r_ BO r_ r_) fun x1=>Ap (BI Ah) fun x2=>Ag r_<|Aa.and 3 r_ r_ r_ (A8 (Ay Ah)<|A6 (Ax (t:=Ab) (u:=T.b) Ah r_ r_ Ch r_ r_) fun x3=>AJ (BI Ah) fun x4=>AD.nil Ah) fun x5=>Ag r_<|Aa.and 3 r_ r_ r_ (A8 (Ay Ah)<|A6 (Ax (t:=Ab) (u:=T.b) Ah r_ r_ Ci r_ r_) fun x6=>AJ (BI Ah) fun x7=>AD.nil Ah) fun x8=>Ag r_<|Aa.and 3 r_ r_ r_ (A8 (Ay Ah)<|A6 (Ax (t:=Ab) (u:=T.b) Ah r_ r_ Cg r_ r_) fun x9=>AJ (BI Ah) fun x10=>AD.nil Ah) fun x11=>Ag r_<|Aa.and 4 r_ r_ r_ (A8 (Ay Ah)<|A6 (Ax (t:=Ab) (u:=(T.sl Ae)) Ah r_ r_ B0 r_ r_) fun x12=>AJ (C4 Ah) fun x13=>AJ (AK r_ Ah BA) fun x14=>AD.nil Ah) fun x15=>Ag r_<|Af<|Aa.ret (.one (Bk r_))
theorem EF:Spec tb Cm [Ab] [T.b] (fun a=>Dn a):=
 Spec.of NM r_ r_ r_ L2
noncomputable def HH(_:Unit):Option Bool:=let x1:=(⟨[(1:UInt8),0,0,0,0,0,0,0,0,0,0,0,0,0,0,0,0,0,0,0,0,0,0,0,0,0,0,0,0,0,0,0],rfl⟩:(Ar UInt8 32));let x2:=(⟨x1,(A1 32 T.u8).z,Az.z,0,0,0, .nil⟩:Aj);let x4:=(⟨(A1 32 T.u8).z,0,0,(GS.mk [x2])⟩:AG);(DR x4 (⟨(A1 32 T.u8).z,0,0, .nil⟩:AG)).bind fun x6=>(BS (decide ((x6.Peers.l.length:Int)=1)) ((Gg x6.Peers.l 0).bind fun x13=>some x13.Remove)).bind fun x16=>(BS x16 ((Gg x6.Peers.l 0).bind fun x18=>let x21:=(⟨[(1:UInt8),0,0,0,0,0,0,0,0,0,0,0,0,0,0,0,0,0,0,0,0,0,0,0,0,0,0,0,0,0,0,0],rfl⟩:(Ar UInt8 32));some (Dw (Ba 32 Bg.u8) x18.Key x21))).bind fun x23=>(BS x23 (let x24:=(⟨false,(A1 32 T.u8).z,false,0,false,0,false, .nil⟩:Av);(Dn x24).bind fun x25=>some x25)).bind fun x26=>(BS x26 ((Dn x6).bind fun x28=>some (!x28))).bind fun x30=>some x30
noncomputable def OB(a:CP []):D2 tb Ht [] [T.b] a:=Ai<|Al (AQ CM)<|At<|Aq (Qv (t:=T.u8) (⟨[(1:UInt8),0,0,0,0,0,0,0,0,0,0,0,0,0,0,0,0,0,0,0,0,0,0,0,0,0,0,0,0,0,0,0],r_⟩:(Ar UInt8 32)) r_ (.cons (AB.at 32 T.u8 0 (by decide)) r_ (Xo 1 r_)<| .nil _)) fun x1=>Ap (Dy r_ r_ (.cons AF r_ Ah<| .nil _)) fun x2=>Ap (YK (t:=Ac) (n:=1) (T.NP.iso (T.NP.prod (Ot Hy) (T.NP.prod (Ot Hy) (T.NP.prod (T.NP.iso (T.NP.prod (T.NP.iso (T.NP.prod Hy (Ot Hy))) Hy)) (T.NP.prod Hy (T.NP.prod Hy (T.NP.prod Hy XC))))))) r_ r_ (.cons r_ Ah<| .nil _)) fun x3=>Ap (Dy r_ r_ (.cons A5 r_ Ah<| .nil _)) fun x4=>Ap (Dy r_ r_ (.nil _)) fun x5=>Aa.op (AN FU (.cons Ah<| .one Ah)) fun x6=>Au (Bi (t:=Ab) 1 r_ r_) fun x7=>Au (Be Ah Ah r_ r_ (A0 _) r_) fun x8=>At<|Al (Ay Ah)<|Aq (Ax (t:=Ab) (u:=(T.sl Ae)) Ah r_ r_ B0 r_ r_) fun x9=>Ap (C4 Ah) fun x10=>Ap (AK r_ Ah BA) fun x11=>Ag r_<|Aa.and 5 r_ r_ r_ (A8 (Ay Ah)<|A6 (Ax (t:=Ab) (u:=(T.sl Ae)) Ah r_ r_ B0 r_ r_) fun x12=>AD.op (C0 r_ Ah BA) fun x13=>Iz (JJ Cs Ah) fun x14=>A6 (DF r_ r_ Ah) fun x15=>AD.nil Ah) fun x16=>Ag r_<|Aa.and 7 r_ r_ r_ (A8 (Ay Ah)<|A6 (Ax (t:=Ab) (u:=(T.sl Ae)) Ah r_ r_ B0 r_ r_) fun x17=>AD.op (C0 r_ Ah BA) fun x18=>Iz (JJ Bo Ah) fun x19=>A6 (DF r_ r_ Ah) fun x20=>A6 (Qv (t:=T.u8) (⟨[(1:UInt8),0,0,0,0,0,0,0,0,0,0,0,0,0,0,0,0,0,0,0,0,0,0,0,0,0,0,0,0,0,0,0],r_⟩:(Ar UInt8 32)) r_ (.cons (AB.at 32 T.u8 0 (by decide)) r_ (Xo 1 r_)<| .nil _)) fun x21=>AJ (Fy (Ba 32 Bg.u8) r_ r_ Ah Ah) fun x22=>AD.nil Ah) fun x23=>Ag r_<|Aa.and 2 r_ r_ r_ (AJ (Dy r_ r_ (.nil _)) fun x24=>
 AD.op (AN EF (.one Ah)) fun x25=>AD.nil Ah) fun x26=>Ag r_<|Aa.and 3 r_ r_ r_ (A6 (Ax (t:=Ab) (u:=Ab) Ah r_ r_ (A0 _) r_ r_) fun x27=>AD.op (AN EF (.one Ah)) fun x28=>AJ (BI Ah) fun x29=>AD.nil Ah) fun x30=>Ag r_<|Af<|Aa.ret (.one (Bk r_))
theorem K3:Spec tb DP [] [T.b] (fun a=>HH ()):=
 Spec.of RU r_ r_ r_ OB
noncomputable def IM(a0:Int):Option Bool:=(BS (decide (0≤a0)) (some (decide (a0≤65535)))).bind fun x3=>some x3
noncomputable def PQ(a:CP [(T.int .i64)]):D2 tb In [(T.int .i64)] [T.b] a:=Ai<|Al (AQ CM)<|At<|Ag r_<|Ap (AK r_ Ah BA) fun x1=>Ag r_<|Aa.and 2 r_ r_ r_ (A8 (AQ (IE r_))<|AJ (AK r_ Ah BA) fun x2=>AD.nil Ah) fun x3=>Ag r_<|Af<|Aa.ret (.one (Bk r_))
theorem LU:Spec tb Er [(T.int .i64)] [T.b] (fun a=>IM a):=
 Spec.of SY r_ r_ r_ PQ
noncomputable def F2(a0:A9):Option Bool:=if(decide (a0.V=6))=true then some true else (iter (fun(s3:Int)=>if(decide (s3<16))=true then (EM 16 s3).bind fun x6=>(a0.B.l[x6]?).bind fun x7=>let x8:= !decide ((x7.toNat:Int)=((0:UInt8).toNat:Int));if x8=true then (some false).map fun r=> .inr (.inr r) else some (.inl (IntKind.i64.wrap (s3+1))) else some (.inr (.inl ()))) 4).bind (Sum.elim (fun(p4:Unit)=>some (decide (a0.V=4))) some)
noncomputable def OA(a:CP [Ao]):D2 tb Hs [Ao] [T.b] a:=Ai<|Au (B5 (t:=Ao) 1 r_ r_ Ah) fun _=>Al (AQ CM)<|At<|Ai<|Al (Ay Ah)<|Aq (Ax (t:=Ao) (u:=(T.int .i64)) Ah r_ r_ B3 r_ r_) fun x1=>Ap (AK r_ Ah BA) fun x2=>Af<|Aa.cond Ah (Ai<|Al (AQ CM)<|Af<|Aa.ret (.one (Bk r_))) (Aa.skip<|At<|Ai<|Al (AQ BA)<|Af<|AE<|Aa.loop (id:=0) (σ:=Int) (τ:=Unit) (fun s3=>⟨[(1, .cp 1 0),(3, .val (T.int .i64) s3)],[(1, .cells [(17, .val Ao a)])]⟩) (fun p4=>⟨[(1, .cp 1 0)],[(1, .cells [(17, .val Ao a)])]⟩) 4 sB (fun _=>r_) (fun s3=>Ai<|Ai<|Ag r_<|Ap (AK r_ Ah BA) fun x5=>Af<|Aa.cond Ah (Aa.skip<|At<|AE<|Ai<|Ag r_<|Al (Ay Ah)<|Aa.op (H4 Ah Ah) fun x6=>Aa.op (Mf BU r_ r_ Ah r_ r_) fun x7=>Ap (NC (I:=IT.u8) r_ Ah (Xo 0 r_)) fun x8=>Af<|Aa.cond Ah (Ai<|Al (AQ CM)<|Af<|Bq<|Aa.ret (.one (Bk r_))) (Aa.skip<|AR<|Af<|Ag r_<|Ap (BR (I:=(IT.int .i64)) Ah BA) fun x9=>Ag r_<|AY x9 sB)) (Bb<|B1 () sB)) (fun p4=>Bc<|At<|Al (Ay Ah)<|Aq (Ax (t:=Ao) (u:=(T.int .i64)) Ah r_ r_ B3 r_ r_) fun x10=>Ap (AK r_ Ah BA) fun x11=>Ag r_<|Af<|Aa.ret (.one (Bk r_))))
theorem Gj:Spec tb CT [Ao] [T.b] (fun a=>F2 a):=
 Spec.of RT r_ r_ r_ OA
noncomputable def HC(a0:AP):Option Bool:=(F2 a0.A).bind fun x2=>(BS x2 (some (decide (1≤a0.Port)))).bind fun x5=>(BS x5 (some (decide (a0.Port≤65535)))).bind fun x8=>some x8
noncomputable def O6(a:CP [Az]):D2 tb Ho [Az] [T.b] a:=Ai<|Au (B5 (t:=Az) 1 r_ r_ Ah) fun _=>Al (AQ CM)<|At<|Al (Ay Ah)<|Aq (Ax (t:=Az) (u:=Ao) Ah r_ r_ HS r_ r_) fun x1=>Aa.op (AN Gj (.one Ah)) fun x2=>Ag r_<|Aa.and 3 r_ r_ r_ (A8 (Ay Ah)<|A6 (Ax (t:=Az) (u:=(T.int .i64)) Ah r_ r_ D3 r_ r_) fun x3=>AJ (AK r_ Ah BA) fun x4=>AD.nil Ah) fun x5=>Ag r_<|Aa.and 3 r_ r_ r_ (A8 (Ay Ah)<|A6 (Ax (t:=Az) (u:=(T.int .i64)) Ah r_ r_ D3 r_ r_) fun x6=>AJ (AK r_ Ah BA) fun x7=>AD.nil Ah) fun x8=>Ag r_<|Af<|Aa.ret (.one (Bk r_))
theorem PI:Spec tb E0 [Az] [T.b] (fun a=>HC a):=
 Spec.of RP r_ r_ r_ O6
noncomputable def HE(a0:A9):Option Int:=(F2 a0).bind fun x2=>if(!x2)=true then some 0 else if(decide (a0.V=4))=true then some 32 else some 128
noncomputable def O9(a:CP [Ao]):D2 tb Hr [Ao] [(T.int .i64)] a:=Ai<|Au (B5 (t:=Ao) 1 r_ r_ Ah) fun _=>Al (AQ BA)<|At<|Ai<|Aq (Ax (t:=Ao) (u:=Ao) Ah r_ r_ (A0 _) r_ r_) fun x1=>Aa.op (AN Gj (.one Ah)) fun x2=>Ap (BI Ah) fun x3=>Af<|Aa.cond Ah (Ai<|Al (AQ BA)<|Af<|Aa.ret (.one (Bk r_))) (Aa.skip<|At<|Ai<|Al (Ay Ah)<|Aq (Ax (t:=Ao) (u:=(T.int .i64)) Ah r_ r_ B3 r_ r_) fun x4=>Ap (AK r_ Ah BA) fun x5=>Af<|Aa.cond Ah (Ai<|Al (AQ BA)<|Af<|Aa.ret (.one (Bk r_))) (Aa.skip<|At<|Al (AQ BA)<|Af<|Aa.ret (.one (Bk r_))))
theorem K2:Spec tb DO [Ao] [(T.int .i64)] (fun a=>HE a):=
 Spec.of RS r_ r_ r_ O9
noncomputable def Jw(a0:A9)(a1:Int):Option Int:=(if 8=0 then none else some (IntKind.i64.wrap (Int.tdiv a1 8))).bind fun x1=>(EM 16 x1).bind fun x2=>(a0.B.l[x2]?).bind fun x3=>(iter (fun(s5:(Int×Int))=>(if 8=0 then none else some (Int.tmod a1 8)).bind fun x7=>if(decide (x7<s5.2))=true then (if 2=0 then none else some (IntKind.i64.wrap (Int.tdiv s5.1 2))).bind fun x9=>some (.inl (x9,IntKind.i64.wrap (s5.2-1))) else some (.inr (.inl s5.1))) (IntKind.i64.wrap (x3.toNat:Int),7)).bind (Sum.elim (fun(p6:Int)=>(if 2=0 then none else some (Int.tmod p6 2)).bind fun x11=>some x11) some)
noncomputable def O8(a:CP [Ao,(T.int .i64)]):D2 tb Hq [Ao,(T.int .i64)] [(T.int .i64)] a:=Ai<|Au (B5 (t:=Ao) 2 r_ r_ Ah) fun _=>Al (AQ BA)<|At<|Ag r_<|Aa.op (R8 (I:=(IT.int .i64)) Ah BA) fun x1=>Al (Ay Ah)<|Aa.op (H4 Ah Ah) fun x2=>Aa.op (Mf BU r_ r_ Ah r_ r_) fun x3=>Ap (VQ (I:=IT.u8) (J:=(IT.int .i64)) r_ Ah) fun x4=>Ag r_<|At<|Ai<|Al (AQ BA)<|Af<|AE<|Aa.loop (id:=0) (σ:=(Int×Int)) (τ:=Int) (fun s5=>⟨[(1, .val (T.int .i64) a.2),(5, .val (T.int .i64) s5.1),(6, .val (T.int .i64) s5.2)],[]⟩) (fun p6=>⟨[(5, .val (T.int .i64) p6)],[]⟩) (x4,7) sB (fun _=>r_) (fun s5=>Ai<|Ai<|Ag r_<|Ag r_<|Aa.op (VO Ah BA) fun x7=>Ap (AK r_ Ah Ah) fun x8=>Af<|Aa.cond Ah (Aa.skip<|At<|AE<|Ag r_<|Aa.op (R8 (I:=(IT.int .i64)) Ah BA) fun x9=>Ag r_<|AR<|Af<|Ag r_<|Ap (R7 (I:=(IT.int .i64)) Ah BA) fun x10=>Ag r_<|AY (x9,x10) sB) (Bb<|B1 s5.1 sB)) (fun p6=>Bc<|At<|Ag r_<|Aa.op (VO Ah BA) fun x11=>Ag r_<|Af<|Aa.ret (.one (Bk r_)))
theorem PK:Spec tb E2 [Ao,(T.int .i64)] [(T.int .i64)] (fun a=>Jw a.1 a.2):=
 Spec.of RR r_ r_ r_ O8
noncomputable def KH(a0:A9)(a1:Int):Option A9:=(F2 a0).bind fun x3=>if(!x3)=true then some (⟨0,(A1 16 T.u8).z⟩:A9) else (HE a0).bind fun x12=>(iter (fun(s13:(Int×A9))=>(BS (decide (s13.1<x12)) (some (decide (s13.1<a1)))).bind fun x17=>if x17=true then (Jw a0 s13.1).bind fun x19=>if(decide (x19=1))=true then (iter (fun(s21:(Int×Int))=>(if 8=0 then none else some (Int.tmod s13.1 8)).bind fun x23=>if(decide (s21.2<x23))=true then (if 2=0 then none else some (IntKind.i64.wrap (Int.tdiv s21.1 2))).bind fun x25=>some (.inl (x25,IntKind.i64.wrap (s21.2+1))) else some (.inr (.inl s21.1))) (128,0)).bind (Sum.elim (fun(p22:Int)=>(if 8=0 then none else some (IntKind.i64.wrap (Int.tdiv s13.1 8))).bind fun x27=>(if 8=0 then none else some (IntKind.i64.wrap (Int.tdiv s13.1 8))).bind fun x28=>(EM 16 x28).bind fun x29=>(s13.2.B.l[x29]?).bind fun x30=>let x32:=Rf ((x30.toNat:Int)+((Rf p22).toNat:Int));(EM 16 x27).bind fun x33=>(if x33<16 then some ({s13.2 with B:=s13.2.B.set x33 x32})else none).bind fun x34=>some (.inl (IntKind.i64.wrap (s13.1+1),x34))) some) else some (.inl (IntKind.i64.wrap (s13.1+1),s13.2)) else some (.inr (.inl s13.2))) (0,(⟨a0.V,(A1 16 T.u8).z⟩:A9))).bind (Sum.elim (fun(p14:A9)=>some p14) some)
noncomputable def PV(a:CP [Ao,(T.int .i64)]):D2 tb Ir [Ao,(T.int .i64)] [Ao] a:=Ai<|Au (B5 (t:=Ao) 2 r_ r_ Ah) fun _=>Au (Bi (t:=Ao) 4 r_ r_) fun x1=>At<|Ai<|Aq (Ax (t:=Ao) (u:=Ao) Ah r_ r_ (A0 _) r_ r_) fun x2=>Aa.op (AN Gj (.one Ah)) fun x3=>Ap (BI Ah) fun x4=>Af<|Aa.cond Ah (Ai<|Ap (Dy r_ r_ (.nil _)) fun x5=>Au (Be Ah Ah r_ r_ (A0 _) r_) fun x6=>Af<|Aa.ret (.one (FN r_ r_ r_ (A0 _) r_ r_))) (Aa.skip<|At<|Al (Ay Ah)<|Aq (Ax (t:=Ao) (u:=(T.int .i64)) Ah r_ r_ B3 r_ r_) fun x7=>Ap (Dy r_ r_ (.cons B3 r_ Ah<| .nil _)) fun x8=>Au (Bi (t:=Ao) 5 r_ r_) fun x9=>Au (Be Ah Ah r_ r_ (A0 _) r_) fun x10=>At<|Aq (Ax (t:=Ao) (u:=Ao) Ah r_ r_ (A0 _) r_ r_) fun x11=>Aa.op (AN K2 (.one Ah)) fun x12=>Ag r_<|At<|Ai<|Al (AQ BA)<|Af<|AE<|Aa.loop (id:=0) (σ:=(Int×A9)) (τ:=A9) (fun s13=>⟨[(1, .val (T.int .i64) a.2),(2, .cp 2 0),(4, .cp 4 0),(5, .cp 5 0),(6, .val (T.int .i64) x12),(7, .val (T.int .i64) s13.1)],[(2, .cells [(17, .val Ao a.1)]),(4, .cells [(17, .val Ao x1)]),(5, .cells [(17, .val Ao s13.2)])]⟩) (fun p14=>⟨[(4, .cp 4 0),(5, .cp 5 0)],[(4, .cells [(17, .val Ao x1)]),(5, .cells [(17, .val Ao p14)])]⟩) (0,x10) sB (fun _=>r_) (fun s13=>Ai<|Ai<|Ag r_<|Ag r_<|Ap (AK r_ Ah Ah) fun x15=>Ag r_<|Aa.and 3 r_ r_ r_ (A8 (AQ (IE r_))<|A8 (AQ (IE r_))<|AJ (AK r_ Ah Ah) fun x16=>AD.nil Ah) fun x17=>Af<|Aa.cond Ah (Aa.skip<|At<|AE<|Ai<|Aq (Ax (t:=Ao) (u:=Ao) Ah r_ r_ (A0 _) r_ r_) fun x18=>Ag r_<|Aa.op (AN PK (.cons Ah<| .one Ah)) fun x19=>Ap (AK r_ Ah BA) fun x20=>Af<|Aa.cond Ah (Ai<|Al (AQ BA)<|At<|Ai<|Al (AQ BA)<|
 Af<|AE<|Aa.loop (id:=2) (σ:=(Int×Int)) (τ:=Int) (fun s21=>⟨[(1, .val (T.int .i64) a.2),(2, .cp 2 0),(4, .cp 4 0),(5, .cp 5 0),(6, .val (T.int .i64) x12),(7, .val (T.int .i64) s13.1),(8, .val (T.int .i64) s21.1),(9, .val (T.int .i64) s21.2)],[(2, .cells [(17, .val Ao a.1)]),(4, .cells [(17, .val Ao x1)]),(5, .cells [(17, .val Ao s13.2)])]⟩) (fun p22=>⟨[(1, .val (T.int .i64) a.2),(2, .cp 2 0),(4, .cp 4 0),(5, .cp 5 0),(6, .val (T.int .i64) x12),(7, .val (T.int .i64) s13.1),(8, .val (T.int .i64) p22)],[(2, .cells [(17, .val Ao a.1)]),(4, .cells [(17, .val Ao x1)]),(5, .cells [(17, .val Ao s13.2)])]⟩) (128,0) sB (fun _=>r_) (fun s21=>Ai<|Ai<|Ag r_<|Ag r_<|Aa.op (VO Ah BA) fun x23=>Ap (AK r_ Ah Ah) fun x24=>Af<|Aa.cond Ah (Aa.skip<|At<|AE<|Ag r_<|Aa.op (R8 (I:=(IT.int .i64)) Ah BA) fun x25=>Ag r_<|AR<|Af<|Ag r_<|Ap (BR (I:=(IT.int .i64)) Ah BA) fun x26=>Ag r_<|AY (x25,x26) sB) (Bb<|B1 s21.1 sB)) (fun p22=>Bc<|Af<|Ag r_<|Aa.op (R8 (I:=(IT.int .i64)) Ah BA) fun x27=>Ag r_<|Aa.op (R8 (I:=(IT.int .i64)) Ah BA) fun x28=>Al (Ay Ah)<|Aa.op (H4 Ah Ah) fun x29=>Aa.op (Mf BU r_ r_ Ah r_ r_) fun x30=>Ag r_<|Ap (VQ (I:=(IT.int .i64)) (J:=IT.u8) r_ Ah) fun x31=>Ap (BR (I:=IT.u8) Ah Ah) fun x32=>Al (Ay Ah)<|Aa.op (H4 Ah Ah) fun x33=>Ej (XX (s:=Ao) BU r_ Ah Ah r_ r_) fun x34=>AR<|Af<|Ag r_<|Ap (BR (I:=(IT.int .i64)) Ah BA) fun x35=>Ag r_<|AY (x35,x34) sB)) (Aa.skip<|AR<|Af<|Ag r_<|Ap (BR (I:=(IT.int .i64)) Ah BA) fun x36=>Ag r_<|AY (x36,s13.2) sB)) (Bb<|B1 s13.2 sB)) (fun p14=>Bc<|At<|Aq (Ax (t:=Ao) (u:=Ao) Ah r_ r_ (A0 _) r_ r_) fun x37=>
 Au (Be Ah Ah r_ r_ (A0 _) r_) fun x38=>Af<|Aa.ret (.one (FN r_ r_ r_ (A0 _) r_ r_))))
theorem QQ:Spec tb EW [Ao,(T.int .i64)] [Ao] (fun a=>KH a.1 a.2):=
 Spec.of Tc r_ r_ r_ PV
noncomputable def G1(a0:Aw):Option Bool:=(F2 a0.A).bind fun x2=>(Ek (!x2) (some (decide (a0.Bits<0)))).bind fun x6=>(Ek x6 ((HE a0.A).bind fun x9=>some (decide (x9<a0.Bits)))).bind fun x11=>if x11=true then some false else (KH a0.A a0.Bits).bind fun x15=>some (Dw De a0.A x15)
noncomputable def O7(a:CP [An]):D2 tb Hp [An] [T.b] a:=Ai<|Au (B5 (t:=An) 1 r_ r_ Ah) fun _=>Al (AQ CM)<|At<|Ai<|Al (Ay Ah)<|Aq (Ax (t:=An) (u:=Ao) Ah r_ r_ B2 r_ r_) fun x1=>Aa.op (AN Gj (.one Ah)) fun x2=>Ap (BI Ah) fun x3=>Ag r_<|Aa.or 3 r_ r_ r_ (A8 (Ay Ah)<|A6 (Ax (t:=An) (u:=(T.int .i64)) Ah r_ r_ BT r_ r_) fun x4=>AJ (AK r_ Ah BA) fun x5=>AD.nil Ah) fun x6=>Ag r_<|Aa.or 6 r_ r_ r_ (A8 (Ay Ah)<|A6 (Ax (t:=An) (u:=(T.int .i64)) Ah r_ r_ BT r_ r_) fun x7=>A8 (Ay Ah)<|A6 (Ax (t:=An) (u:=Ao) Ah r_ r_ B2 r_ r_) fun x8=>AD.op (AN K2 (.one Ah)) fun x9=>AJ (AK r_ Ah Ah) fun x10=>AD.nil Ah) fun x11=>Af<|Aa.cond Ah (Ai<|Al (AQ CM)<|Af<|Aa.ret (.one (Bk r_))) (Aa.skip<|At<|Al (Ay Ah)<|Aq (Ax (t:=An) (u:=Ao) Ah r_ r_ B2 r_ r_) fun x12=>Al (Ay Ah)<|Aq (Ax (t:=An) (u:=Ao) Ah r_ r_ B2 r_ r_) fun x13=>Al (Ay Ah)<|Aq (Ax (t:=An) (u:=(T.int .i64)) Ah r_ r_ BT r_ r_) fun x14=>Aa.op (AN QQ (.cons Ah<| .one Ah)) fun x15=>Ap (Fy De r_ r_ Ah Ah) fun x16=>Ag r_<|Af<|Aa.ret (.one (Bk r_)))
theorem PJ:Spec tb E1 [An] [T.b] (fun a=>G1 a):=
 Spec.of RQ r_ r_ r_ O7
noncomputable def KI(a0:A9)(a1:A9):Option Bool:=if(!decide (a0.V=a1.V))=true then some (decide (a0.V<a1.V)) else (iter (fun(s7:Int)=>if(decide (s7<16))=true then (EM 16 s7).bind fun x10=>(a0.B.l[x10]?).bind fun x11=>(EM 16 s7).bind fun x12=>(a1.B.l[x12]?).bind fun x13=>if(!decide ((x11.toNat:Int)=(x13.toNat:Int)))=true then (EM 16 s7).bind fun x15=>(a0.B.l[x15]?).bind fun x16=>(EM 16 s7).bind fun x17=>(a1.B.l[x17]?).bind fun x18=>(some (decide ((x16.toNat:Int)<(x18.toNat:Int)))).map fun r=> .inr (.inr r) else some (.inl (IntKind.i64.wrap (s7+1))) else some (.inr (.inl ()))) 0).bind (Sum.elim (fun(p8:Unit)=>some false) some)
noncomputable def PW(a:CP [Ao,Ao]):D2 tb Is [Ao,Ao] [T.b] a:=Ai<|Au (B5 (t:=Ao) 2 r_ r_ Ah) fun _=>Au (B5 (t:=Ao) 3 r_ r_ Ah) fun _=>Al (AQ CM)<|At<|Ai<|Al (Ay Ah)<|Aq (Ax (t:=Ao) (u:=(T.int .i64)) Ah r_ r_ B3 r_ r_) fun x1=>Al (Ay Ah)<|Aq (Ax (t:=Ao) (u:=(T.int .i64)) Ah r_ r_ B3 r_ r_) fun x2=>Ap (AK r_ Ah Ah) fun x3=>Af<|Aa.cond Ah (Ai<|Al (Ay Ah)<|Aq (Ax (t:=Ao) (u:=(T.int .i64)) Ah r_ r_ B3 r_ r_) fun x4=>Al (Ay Ah)<|Aq (Ax (t:=Ao) (u:=(T.int .i64)) Ah r_ r_ B3 r_ r_) fun x5=>Ap (AK r_ Ah Ah) fun x6=>Ag r_<|Af<|Aa.ret (.one (Bk r_))) (Aa.skip<|At<|Ai<|Al (AQ BA)<|Af<|AE<|Aa.loop (id:=0) (σ:=Int) (τ:=Unit) (fun s7=>⟨[(2, .cp 2 0),(3, .cp 3 0),(5, .val (T.int .i64) s7)],[(2, .cells [(17, .val Ao a.1)]),(3, .cells [(17, .val Ao a.2)])]⟩) (fun p8=>⟨[],[]⟩) 0 sB (fun _=>r_) (fun s7=>Ai<|Ai<|Ag r_<|Ap (AK r_ Ah BA) fun x9=>Af<|Aa.cond Ah (Aa.skip<|At<|AE<|Ai<|Ag r_<|Al (Ay Ah)<|Aa.op (H4 Ah Ah) fun x10=>Aa.op (Mf BU r_ r_ Ah r_ r_) fun x11=>Ag r_<|Al (Ay Ah)<|Aa.op (H4 Ah Ah) fun x12=>Aa.op (Mf BU r_ r_ Ah r_ r_) fun x13=>Ap (NC (I:=IT.u8) r_ Ah Ah) fun x14=>Af<|Aa.cond Ah (Ai<|Ag r_<|Al (Ay Ah)<|Aa.op (H4 Ah Ah) fun x15=>Aa.op (Mf BU r_ r_ Ah r_ r_) fun x16=>Ag r_<|Al (Ay Ah)<|Aa.op (H4 Ah Ah) fun x17=>Aa.op (Mf BU r_ r_ Ah r_ r_) fun x18=>Ap (NC (I:=IT.u8) r_ Ah Ah) fun x19=>Ag r_<|Af<|Bq<|Aa.ret (.one (Bk r_))) (Aa.skip<|AR<|Af<|Ag r_<|Ap (BR (I:=(IT.int .i64)) Ah BA) fun x20=>Ag r_<|AY x20 sB)) (Bb<|B1 () sB)) (fun p8=>Bc<|At<|Al (AQ CM)<|Af<|Aa.ret (.one (Bk r_))))
theorem QR:Spec tb EX [Ao,Ao] [T.b] (fun a=>KI a.1 a.2):=
 Spec.of Td r_ r_ r_ PW
noncomputable def HD(a0:Aw)(a1:Aw):Option Bool:=if(!(Dw De a0.A a1.A))=true then (KI a0.A a1.A).bind fun x6=>some x6 else some (decide (a0.Bits<a1.Bits))
noncomputable def PU(a:CP [An,An]):D2 tb Iq [An,An] [T.b] a:=Ai<|Au (B5 (t:=An) 2 r_ r_ Ah) fun _=>Au (B5 (t:=An) 3 r_ r_ Ah) fun _=>Al (AQ CM)<|At<|Ai<|Al (Ay Ah)<|Aq (Ax (t:=An) (u:=Ao) Ah r_ r_ B2 r_ r_) fun x1=>Al (Ay Ah)<|Aq (Ax (t:=An) (u:=Ao) Ah r_ r_ B2 r_ r_) fun x2=>Ap (Fy De r_ r_ Ah Ah) fun x3=>Af<|Aa.cond Ah (Ai<|Al (Ay Ah)<|Aq (Ax (t:=An) (u:=Ao) Ah r_ r_ B2 r_ r_) fun x4=>Al (Ay Ah)<|Aq (Ax (t:=An) (u:=Ao) Ah r_ r_ B2 r_ r_) fun x5=>Aa.op (AN QR (.cons Ah<| .one Ah)) fun x6=>Ag r_<|Af<|Aa.ret (.one (Bk r_))) (Aa.skip<|At<|Al (Ay Ah)<|Aq (Ax (t:=An) (u:=(T.int .i64)) Ah r_ r_ BT r_ r_) fun x7=>Al (Ay Ah)<|Aq (Ax (t:=An) (u:=(T.int .i64)) Ah r_ r_ BT r_ r_) fun x8=>Ap (AK r_ Ah Ah) fun x9=>Ag r_<|Af<|Aa.ret (.one (Bk r_)))
theorem QP:Spec tb EV [An,An] [T.b] (fun a=>HD a.1 a.2):=
 Spec.of Tb r_ r_ r_ PU
noncomputable def F1(a0:AG):Option Bool:=(IM a0.Port).bind fun x2=>(Ek (!x2) (some (decide (16<(a0.Peers.l.length:Int))))).bind fun x7=>if x7=true then some false else (iter (fun(s8:(Int×(GS Aw)))=>if(decide (s8.1<(a0.Peers.l.length:Int)))=true then (Gg a0.Peers.l s8.1).bind fun x14=>let x19:=(⟨[0,0,0,0,0,0,0,0,0,0,0,0,0,0,0,0,0,0,0,0,0,0,0,0,0,0,0,0,0,0,0,0],rfl⟩:(Ar UInt8 32));(Ek (Dw (Ba 32 Bg.u8) x14.Key x19) ((IM x14.Keep).bind fun x22=>some (!x22))).bind fun x24=>(Ek x24 (let x27:= !(Dw Bh x14.End (⟨Ao.z,0⟩:AP));(BS x27 ((HC x14.End).bind fun x29=>some (!x29))).bind fun x31=>some x31)).bind fun x32=>if x32=true then (some false).map fun r=> .inr (.inr r) else (iter (fun(s33:Int)=>if(decide (s33<s8.1))=true then (Gg a0.Peers.l s33).bind fun x37=>if(Dw (Ba 32 Bg.u8) x37.Key x14.Key)=true then ((some false).map fun r=> .inr (.inr r)).map fun r=> .inr (.inr r) else some (.inl (IntKind.i64.wrap (s33+1))) else some (.inr (.inl ()))) 0).bind (Sum.elim (fun(p34:Unit)=>(iter (fun(s43:(Int×(GS Aw)))=>if(decide (s43.1<(x14.Allowed.l.length:Int)))=true then (Gg x14.Allowed.l s43.1).bind fun x49=>(G1 x49).bind fun x54=>(Ek (!x54) ((BS (decide (0<s43.1)) ((Gg x14.Allowed.l (IntKind.i64.wrap (s43.1-1))).bind fun x59=>(HD x59 x49).bind fun x62=>some (!x62))).bind fun x64=>some x64)).bind fun x65=>if x65=true then ((some false).map fun r=> .inr (.inr r)).map fun r=> .inr (.inr r) else (iter (fun(s66:Int)=>if(decide (s66<(s43.2.l.length:Int)))=true then (EM s43.2.l.length s66).bind fun x70=>
 (s43.2.l[x70]?.map fun x=>x).bind fun x71=>if(Dw BZ x71 x49)=true then (((some false).map fun r=> .inr (.inr r)).map fun r=> .inr (.inr r)).map fun r=> .inr (.inr r) else some (.inl (IntKind.i64.wrap (s66+1))) else some (.inr (.inl ()))) 0).bind (Sum.elim (fun(p67:Unit)=>(MS 32 s43.2 [x49]).bind fun x77=>some (.inl (IntKind.i64.wrap (s43.1+1),x77))) some) else some (.inr (.inl s43.2))) (0,s8.2)).bind (Sum.elim (fun(p44:(GS Aw))=>some (.inl (IntKind.i64.wrap (s8.1+1),p44))) some)) some) else some (.inr (.inl s8.2))) (0, .nil)).bind (Sum.elim (fun(p9:(GS Aw))=>some (decide ((p9.l.length:Int)≤64))) some)
noncomputable def O4(a:CP [Ad]):D2 tb Hm [Ad] [T.b] a:=Ai<|Au (B5 (t:=Ad) 1 r_ r_ Ah) fun _=>Al (AQ CM)<|At<|Ai<|Al (Ay Ah)<|Aq (Ax (t:=Ad) (u:=(T.int .i64)) Ah r_ r_ BL r_ r_) fun x1=>Aa.op (AN LU (.one Ah)) fun x2=>Ap (BI Ah) fun x3=>Ag r_<|Aa.or 4 r_ r_ r_ (A8 (Ay Ah)<|A6 (Ax (t:=Ad) (u:=(BM (T.sl Ac))) Ah r_ r_ A5 r_ r_) fun x4=>AJ (C4 (AH Ah)) fun x5=>AJ (AK r_ Ah BA) fun x6=>AD.nil Ah) fun x7=>Af<|Aa.cond Ah (Ai<|Al (AQ CM)<|Af<|Aa.ret (.one (Bk r_))) (Aa.skip<|At<|Al (AQ (GF (t:=An)))<|Aa.turn (born (n:=3) (j:=1003) r_ r_)<|At<|Ai<|Al (AQ BA)<|Af<|AE<|Aa.loop (id:=0) (σ:=(Int×(GS Aw))) (τ:=(GS Aw)) (fun s8=>⟨[(1, .cp 1 0),(3, .own 1003),(4, .val (T.int .i64) s8.1)],[(1, .cells [(35, .val Ad a)]),(1003, .row An s8.2)]⟩) (fun p9=>⟨[(3, .own 1003)],[(1003, .row An p9)]⟩) (0, .nil) sB (fun _=>r_) (fun s8=>Ai<|Ai<|Ag r_<|Al (Ay Ah)<|Aq (Ax (t:=Ad) (u:=(BM (T.sl Ac))) Ah r_ r_ A5 r_ r_) fun x10=>Ap (C4 (AH Ah)) fun x11=>Ap (AK r_ Ah Ah) fun x12=>Af<|Aa.cond Ah (Aa.skip<|At<|AE<|Ai<|Al (Ay Ah)<|Aq (Ax (t:=Ad) (u:=(BM (T.sl Ac))) Ah r_ r_ A5 r_ r_) fun x13=>Ag r_<|Aa.op (C0 r_ (AH Ah) Ah) fun x14=>Aq (DF r_ r_ Ah) fun x15=>Au (Bi (t:=Ac) 5 r_ r_) fun x16=>Au (Be Ah Ah r_ r_ (A0 _) r_) fun x17=>At<|Ai<|Al (Ay Ah)<|Aq (Ax (t:=Ac) (u:=(A1 32 T.u8)) Ah r_ r_ AF r_ r_) fun x18=>Aq (Qv (t:=T.u8) (⟨[0,0,0,0,0,0,0,0,0,0,0,0,0,0,0,0,0,0,0,0,0,0,0,0,0,0,0,0,0,0,0,0],r_⟩:(Ar UInt8 32)) r_ (.nil _)) fun x19=>Ap (Fy (Ba 32 Bg.u8) r_ r_ Ah Ah) fun x20=>Ag r_<|Aa.or 4 r_ r_ r_ (A8 (Ay Ah)<|A6 (Ax (t:=Ac) (u:=(T.int .i64)) Ah r_ r_ BK r_ r_) fun x21=>
 AD.op (AN LU (.one Ah)) fun x22=>AJ (BI Ah) fun x23=>AD.nil Ah) fun x24=>Ag r_<|Aa.or 10 r_ r_ r_ (A8 (Ay Ah)<|A6 (Ax (t:=Ac) (u:=Az) Ah r_ r_ Bf r_ r_) fun x25=>AJ (Dy r_ r_ (.nil _)) fun x26=>AJ (Fy Bh r_ r_ Ah Ah) fun x27=>A8 (AQ (IE r_))<|AD.and 4 r_ r_ r_ r_ r_ (A8 (Ay Ah)<|A6 (Ax (t:=Ac) (u:=Az) Ah r_ r_ Bf r_ r_) fun x28=>AD.op (AN PI (.one Ah)) fun x29=>AJ (BI Ah) fun x30=>AD.nil Ah) fun x31=>AD.nil Ah) fun x32=>Af<|Aa.cond Ah (Ai<|Al (AQ CM)<|Af<|Bq<|Aa.ret (.one (Bk r_))) (Aa.skip<|At<|Ai<|Al (AQ BA)<|Af<|AE<|Aa.loop (id:=2) (σ:=Int) (τ:=Unit) (fun s33=>⟨[(1, .cp 1 0),(3, .own 1003),(4, .val (T.int .i64) s8.1),(5, .cp 5 0),(6, .val (T.int .i64) s33)],[(1, .cells [(35, .val Ad a)]),(5, .cells [(86, .val Ac x17)]),(1003, .row An s8.2)]⟩) (fun p34=>⟨[(1, .cp 1 0),(3, .own 1003),(4, .val (T.int .i64) s8.1),(5, .cp 5 0)],[(1, .cells [(35, .val Ad a)]),(5, .cells [(86, .val Ac x17)]),(1003, .row An s8.2)]⟩) 0 sB (fun _=>r_) (fun s33=>Ai<|Ai<|Ag r_<|Ag r_<|Ap (AK r_ Ah Ah) fun x35=>Af<|Aa.cond Ah (Aa.skip<|At<|AE<|Ai<|Al (Ay Ah)<|Aq (Ax (t:=Ad) (u:=(BM (T.sl Ac))) Ah r_ r_ A5 r_ r_) fun x36=>Ag r_<|Aa.op (C0 r_ (AH Ah) Ah) fun x37=>Ix (JJ AF Ah) fun x38=>Aq (DF r_ r_ Ah) fun x39=>Al (Ay Ah)<|Aq (Ax (t:=Ac) (u:=(A1 32 T.u8)) Ah r_ r_ AF r_ r_) fun x40=>Ap (Fy (Ba 32 Bg.u8) r_ r_ Ah Ah) fun x41=>Af<|Aa.cond Ah (Ai<|Al (AQ CM)<|Af<|Bq<|Bq<|Aa.ret (.one (Bk r_))) (Aa.skip<|AR<|Af<|Ag r_<|Ap (BR (I:=(IT.int .i64)) Ah BA) fun x42=>Ag r_<|AY x42 sB)) (Bb<|B1 () sB)) (fun p34=>Bc<|At<|Al (AQ BA)<|
 Af<|AE<|Aa.loop (id:=4) (σ:=(Int×(GS Aw))) (τ:=(GS Aw)) (fun s43=>⟨[(1, .cp 1 0),(3, .own 1003),(4, .val (T.int .i64) s8.1),(5, .cp 5 0),(7, .val (T.int .i64) s43.1)],[(1, .cells [(35, .val Ad a)]),(5, .cells [(86, .val Ac x17)]),(1003, .row An s43.2)]⟩) (fun p44=>⟨[(1, .cp 1 0),(3, .own 1003),(4, .val (T.int .i64) s8.1)],[(1, .cells [(35, .val Ad a)]),(1003, .row An p44)]⟩) (0,s8.2) sB (fun _=>r_) (fun s43=>Ai<|Ai<|Ag r_<|Al (Ay Ah)<|Aq (Ax (t:=Ac) (u:=(BM (T.sl An))) Ah r_ r_ AU r_ r_) fun x45=>Ap (C4 (AH Ah)) fun x46=>Ap (AK r_ Ah Ah) fun x47=>Af<|Aa.cond Ah (Aa.skip<|At<|AE<|Ai<|Al (Ay Ah)<|Aq (Ax (t:=Ac) (u:=(BM (T.sl An))) Ah r_ r_ AU r_ r_) fun x48=>Ag r_<|Aa.op (C0 r_ (AH Ah) Ah) fun x49=>Aq (DF r_ r_ Ah) fun x50=>Au (Bi (t:=An) 8 r_ r_) fun x51=>Au (Be Ah Ah r_ r_ (A0 _) r_) fun x52=>At<|Ai<|Aq (Ax (t:=An) (u:=An) Ah r_ r_ (A0 _) r_ r_) fun x53=>Aa.op (AN PJ (.one Ah)) fun x54=>Ap (BI Ah) fun x55=>Ag r_<|Aa.or 13 r_ r_ r_ (A8 (AQ (IE r_))<|AJ (AK r_ Ah BA) fun x56=>A8 (AQ (IE r_))<|AD.and 9 r_ r_ r_ r_ r_ (A8 (Ay Ah)<|A6 (Ax (t:=Ac) (u:=(BM (T.sl An))) Ah r_ r_ AU r_ r_) fun x57=>A8 (AQ (IE r_))<|AJ (R7 (I:=(IT.int .i64)) Ah BA) fun x58=>AD.op (C0 r_ (AH Ah) Ah) fun x59=>A6 (DF r_ r_ Ah) fun x60=>A6 (Ax (t:=An) (u:=An) Ah r_ r_ (A0 _) r_ r_) fun x61=>AD.op (AN QP (.cons Ah<| .one Ah)) fun x62=>AJ (BI Ah) fun x63=>AD.nil Ah) fun x64=>AD.nil Ah) fun x65=>Af<|Aa.cond Ah (Ai<|Al (AQ CM)<|Af<|Bq<|Bq<|Aa.ret (.one (Bk r_))) (Aa.skip<|At<|Ai<|Al (AQ BA)<|Af<|AE<|Aa.loop (id:=6) (σ:=Int) (τ:=Unit) (fun s66=>⟨[(1, .cp 1 0),(3, .own 1003),(4, .val (T.int .i64) s8.1),(5, .cp 5 0),(7, .val (T.int .i64) s43.1),(8, .cp 8 0),(9, .val (T.int .i64) s66)],[(1, .cells [(35, .val Ad a)]),(5, .cells [(86, .val Ac x17)]),(8, .cells [(18, .val An x52)]),(1003, .row An s43.2)]⟩) (fun p67=>⟨[(1, .cp 1 0),(3, .own 1003),(4, .val (T.int .i64) s8.1),(5, .cp 5 0),(7, .val (T.int .i64) s43.1),(8, .cp 8 0)],[(1, .cells [(35, .val Ad a)]),(5, .cells [(86, .val Ac x17)]),(8, .cells [(18, .val An x52)]),(1003, .row An s43.2)]⟩) 0 sB (fun _=>r_) (fun s66=>
 Ai<|Ai<|Ag r_<|Ag r_<|Ap (LE Ah r_) fun x68=>Ap (AK r_ Ah Ah) fun x69=>Af<|Aa.cond Ah (Aa.skip<|At<|AE<|Ai<|Ag r_<|Ag r_<|Aa.op (Ku r_ Ah r_ Ah) fun x70=>Aa.op (R9 (t:=An) (u:=An) r_ r_ (A0 _) Ah r_) fun x71=>Aq (Ax (t:=An) (u:=An) Ah r_ r_ (A0 _) r_ r_) fun x72=>Ap (Fy BZ r_ r_ Ah Ah) fun x73=>Af<|Aa.cond Ah (Ai<|Al (AQ CM)<|Af<|Bq<|Bq<|Bq<|Aa.ret (.one (Bk r_))) (Aa.skip<|AR<|Af<|Ag r_<|Ap (BR (I:=(IT.int .i64)) Ah BA) fun x74=>Ag r_<|AY x74 sB)) (Bb<|B1 () sB)) (fun p67=>Bc<|Af<|Ag r_<|Aq (Ax (t:=An) (u:=An) Ah r_ r_ (A0 _) r_ r_) fun x75=>Ap (KQ (t:=An) (n:=1) r_ r_ (.cons r_ Ah<| .nil _)) fun x76=>Ej (I9 r_ Ah r_ (My Ah)) fun x77=>Ag r_<|AR<|Af<|Ag r_<|Ap (BR (I:=(IT.int .i64)) Ah BA) fun x78=>Ag r_<|AY (x78,x77) sB))) (Bb<|B1 s43.2 sB)) (fun p44=>Bc<|AR<|Af<|Ag r_<|Ap (BR (I:=(IT.int .i64)) Ah BA) fun x79=>Ag r_<|AY (x79,p44) sB)))) (Bb<|B1 s8.2 sB)) (fun p9=>Bc<|At<|Ag r_<|Ap (LE Ah r_) fun x80=>Ap (AK r_ Ah BA) fun x81=>Ag r_<|Af<|Aa.ret (.one (Bk r_))))
theorem Gi:Spec tb CS [Ad] [T.b] (fun a=>F1 a):=
 Spec.of RN r_ r_ r_ O4
noncomputable def Kk(a0:AG)(a1:(Ar UInt8 32)):Option Int:=(iter (fun(s1:Int)=>if(decide (s1<(a0.Peers.l.length:Int)))=true then (Gg a0.Peers.l s1).bind fun x7=>if(Dw (Ba 32 Bg.u8) x7.Key a1)=true then (some s1).map fun r=> .inr (.inr r) else some (.inl (IntKind.i64.wrap (s1+1))) else some (.inr (.inl ()))) 0).bind (Sum.elim (fun(p2:Unit)=>some (-1)) some)
noncomputable def Sw(a:CP [Ad,(A1 32 T.u8)]):D2 tb Le [Ad,(A1 32 T.u8)] [(T.int .i64)] a:=Ai<|Au (B5 (t:=Ad) 2 r_ r_ Ah) fun _=>Au (B5 (t:=(A1 32 T.u8)) 3 r_ r_ Ah) fun _=>Al (AQ BA)<|At<|Ai<|Al (AQ BA)<|Af<|AE<|Aa.loop (id:=0) (σ:=Int) (τ:=Unit) (fun s1=>⟨[(2, .cp 2 0),(3, .cp 3 0),(5, .val (T.int .i64) s1)],[(2, .cells [(35, .val Ad a.1)]),(3, .cells [(32, .val (A1 32 T.u8) a.2)])]⟩) (fun p2=>⟨[],[]⟩) 0 sB (fun _=>r_) (fun s1=>Ai<|Ai<|Ag r_<|Al (Ay Ah)<|Aq (Ax (t:=Ad) (u:=(BM (T.sl Ac))) Ah r_ r_ A5 r_ r_) fun x3=>Ap (C4 (AH Ah)) fun x4=>Ap (AK r_ Ah Ah) fun x5=>Af<|Aa.cond Ah (Aa.skip<|At<|AE<|Ai<|Al (Ay Ah)<|Aq (Ax (t:=Ad) (u:=(BM (T.sl Ac))) Ah r_ r_ A5 r_ r_) fun x6=>Ag r_<|Aa.op (C0 r_ (AH Ah) Ah) fun x7=>Ix (JJ AF Ah) fun x8=>Aq (DF r_ r_ Ah) fun x9=>Aq (Ax (t:=(A1 32 T.u8)) (u:=(A1 32 T.u8)) Ah r_ r_ (A0 _) r_ r_) fun x10=>Ap (Fy (Ba 32 Bg.u8) r_ r_ Ah Ah) fun x11=>Af<|Aa.cond Ah (Ai<|Ag r_<|Ag r_<|Af<|Bq<|Aa.ret (.one (Bk r_))) (Aa.skip<|AR<|Af<|Ag r_<|Ap (BR (I:=(IT.int .i64)) Ah BA) fun x12=>Ag r_<|AY x12 sB)) (Bb<|B1 () sB)) (fun p2=>Bc<|At<|Al (AQ BA)<|Af<|Aa.ret (.one (Bk r_)))
theorem Jo:Spec tb Ez [Ad,(A1 32 T.u8)] [(T.int .i64)] (fun a=>Kk a.1 a.2):=
 Spec.of VY r_ r_ r_ Sw
noncomputable def G0(a0:AG)(a1:AG):Option Bool:=(iter (fun(s1:(Int×Int))=>if(decide (s1.2<(a0.Peers.l.length:Int)))=true then (Gg a0.Peers.l s1.2).bind fun x8=>(Kk a1 x8.Key).bind fun x11=>if(decide (x11<0))=true then some (.inl (s1.1,IntKind.i64.wrap (s1.2+1))) else (Ek (!decide (x11=s1.1)) ((Gg a0.Peers.l s1.2).bind fun x16=>let x20:= !(Dw Bh x16.End (⟨Ao.z,0⟩:AP));(BS x20 ((Gg a1.Peers.l x11).bind fun x22=>let x26:=(Dw Bh x22.End (⟨Ao.z,0⟩:AP));some x26)).bind fun x27=>some x27)).bind fun x28=>if x28=true then (some false).map fun r=> .inr (.inr r) else some (.inl (IntKind.i64.wrap (s1.1+1),IntKind.i64.wrap (s1.2+1))) else some (.inr (.inl ()))) (0,0)).bind (Sum.elim (fun(p2:Unit)=>some true) some)
noncomputable def O2(a:CP [Ad,Ad]):D2 tb Hk [Ad,Ad] [T.b] a:=Ai<|Au (B5 (t:=Ad) 2 r_ r_ Ah) fun _=>Au (B5 (t:=Ad) 3 r_ r_ Ah) fun _=>Al (AQ CM)<|At<|Al (AQ BA)<|At<|Ai<|Al (AQ BA)<|Af<|AE<|Aa.loop (id:=0) (σ:=(Int×Int)) (τ:=Unit) (fun s1=>⟨[(2, .cp 2 0),(3, .cp 3 0),(5, .val (T.int .i64) s1.1),(6, .val (T.int .i64) s1.2)],[(2, .cells [(35, .val Ad a.1)]),(3, .cells [(35, .val Ad a.2)])]⟩) (fun p2=>⟨[],[]⟩) (0,0) sB (fun _=>r_) (fun s1=>Ai<|Ai<|Ag r_<|Al (Ay Ah)<|Aq (Ax (t:=Ad) (u:=(BM (T.sl Ac))) Ah r_ r_ A5 r_ r_) fun x3=>Ap (C4 (AH Ah)) fun x4=>Ap (AK r_ Ah Ah) fun x5=>Af<|Aa.cond Ah (Aa.skip<|At<|AE<|Ai<|Aq (Ax (t:=Ad) (u:=Ad) Ah r_ r_ (A0 _) r_ r_) fun x6=>Al (Ay Ah)<|Aq (Ax (t:=Ad) (u:=(BM (T.sl Ac))) Ah r_ r_ A5 r_ r_) fun x7=>Ag r_<|Aa.op (C0 r_ (AH Ah) Ah) fun x8=>Ix (JJ AF Ah) fun x9=>Aq (DF r_ r_ Ah) fun x10=>Aa.op (AN Jo (.cons Ah<| .one Ah)) fun x11=>Ag r_<|At<|Ai<|Ag r_<|Ap (AK r_ Ah BA) fun x12=>Af<|Aa.cond Ah (Bb<|Bc<|Af<|Ag r_<|Ap (BR (I:=(IT.int .i64)) Ah BA) fun x13=>Ag r_<|AY (s1.1,x13) sB) (Aa.skip<|At<|Ai<|Ag r_<|Ag r_<|Ap (AK r_ Ah Ah) fun x14=>Ag r_<|Aa.or 18 r_ r_ r_ (A8 (Ay Ah)<|A6 (Ax (t:=Ad) (u:=(BM (T.sl Ac))) Ah r_ r_ A5 r_ r_) fun x15=>A8 (AQ (IE r_))<|AD.op (C0 r_ (AH Ah) Ah) fun x16=>Iz (JJ Bf Ah) fun x17=>A6 (DF r_ r_ Ah) fun x18=>AJ (Dy r_ r_ (.nil _)) fun x19=>AJ (Fy Bh r_ r_ Ah Ah) fun x20=>A8 (AQ (IE r_))<|AD.and 8 r_ r_ r_ r_ r_ (A8 (Ay Ah)<|A6 (Ax (t:=Ad) (u:=(BM (T.sl Ac))) Ah r_ r_ A5 r_ r_) fun x21=>A8 (AQ (IE r_))<|AD.op (C0 r_ (AH Ah) Ah) fun x22=>
 Iz (JJ Bf Ah) fun x23=>A6 (DF r_ r_ Ah) fun x24=>AJ (Dy r_ r_ (.nil _)) fun x25=>AJ (Fy Bh r_ r_ Ah Ah) fun x26=>AD.nil Ah) fun x27=>AD.nil Ah) fun x28=>Af<|Aa.cond Ah (Ai<|Al (AQ CM)<|Af<|Bq<|Aa.ret (.one (Bk r_))) (Aa.skip<|Af<|Ag r_<|Ap (BR (I:=(IT.int .i64)) Ah BA) fun x29=>Ag r_<|AR<|Af<|Ag r_<|Ap (BR (I:=(IT.int .i64)) Ah BA) fun x30=>Ag r_<|AY (x29,x30) sB))) (Bb<|B1 () sB)) (fun p2=>Bc<|At<|Al (AQ CM)<|Af<|Aa.ret (.one (Bk r_)))
theorem K0:Spec tb DM [Ad,Ad] [T.b] (fun a=>G0 a.1 a.2):=
 Spec.of RL r_ r_ r_ O2
noncomputable def FO(a0:AG):Option Av:=(iter (fun(s7:(Int×(GS Ak)))=>if(decide (s7.1<(a0.Peers.l.length:Int)))=true then (Gg a0.Peers.l s7.1).bind fun x13=>let x21:= !(Dw Bh x13.End (⟨Ao.z,0⟩:AP));let x25:=(⟨x13.Key,false,false,true,x13.Psk,x21,x13.End,true,x13.Keep,true,x13.Allowed⟩:Ak);(MS 152 s7.2 [x25]).bind fun x27=>some (.inl (IntKind.i64.wrap (s7.1+1),x27)) else some (.inr (.inl s7.2))) (0, .nil)).bind (Sum.elim (fun(p8:(GS Ak))=>let x29:=(⟨(⟨true,a0.Private,true,a0.Port,true,a0.Mark,true, .nil⟩:Av).HasPrivate,(⟨true,a0.Private,true,a0.Port,true,a0.Mark,true, .nil⟩:Av).Private,(⟨true,a0.Private,true,a0.Port,true,a0.Mark,true, .nil⟩:Av).HasPort,(⟨true,a0.Private,true,a0.Port,true,a0.Mark,true, .nil⟩:Av).Port,(⟨true,a0.Private,true,a0.Port,true,a0.Mark,true, .nil⟩:Av).HasMark,(⟨true,a0.Private,true,a0.Port,true,a0.Mark,true, .nil⟩:Av).Mark,(⟨true,a0.Private,true,a0.Port,true,a0.Mark,true, .nil⟩:Av).Replace,p8⟩:Av);some x29) some)
noncomputable def Mw(a:CP [Ad]):D2 tb FK [Ad] [Ab] a:=Ai<|Au (B5 (t:=Ad) 1 r_ r_ Ah) fun _=>Au (Bi (t:=Ab) 2 r_ r_) fun x1=>At<|Al (Ay Ah)<|Aq (Ax (t:=Ad) (u:=(A1 32 T.u8)) Ah r_ r_ BH r_ r_) fun x2=>Al (Ay Ah)<|Aq (Ax (t:=Ad) (u:=(T.int .i64)) Ah r_ r_ BL r_ r_) fun x3=>Al (Ay Ah)<|Aq (Ax (t:=Ad) (u:=T.u32) Ah r_ r_ Cn r_ r_) fun x4=>Al (El.u (Dy r_ r_ (.cons BO r_ CM<| .cons Df r_ Ah<| .cons Ch r_ CM<| .cons DU r_ Ah<| .cons Ci r_ CM<| .cons DV r_ Ah<| .cons Cg r_ CM<| .nil _)))<|Au (Bi (t:=Ab) 3 r_ r_) fun x5=>Au (Mr.u (Be Ah Ah r_ r_ (A0 _) r_)) fun _=>Aa.turn (JF (j:=3) r_ (.iso (.prod .one (.prod .one (.prod .one (.prod .one (.prod .one (.prod .one (.prod .one .one)))))))))<|Aa.turn (TO (t:=Ae) (i:=3) (o:=38) (j:=3037) r_ r_ r_ r_)<|At<|Ai<|Al (AQ BA)<|Af<|AE<|Aa.loop (id:=0) (σ:=(Int×(GS Ak))) (τ:=(GS Ak)) (fun s7=>⟨[(1, .cp 1 0),(2, .cp 2 0),(3, .cp 3 0),(4, .val (T.int .i64) s7.1)],[(1, .cells [(35, .val Ad a)]),(2, .cells [(39, .val Ab x1)]),(3, .cells [(1, .val T.b (⟨true,x2,true,x3,true,x4,true, .nil⟩:Av).HasPrivate),(32, .val (A1 32 T.u8) (⟨true,x2,true,x3,true,x4,true, .nil⟩:Av).Private),(1, .val T.b (⟨true,x2,true,x3,true,x4,true, .nil⟩:Av).HasPort),(1, .val (T.int .i64) (⟨true,x2,true,x3,true,x4,true, .nil⟩:Av).Port),(1, .val T.b (⟨true,x2,true,x3,true,x4,true, .nil⟩:Av).HasMark),(1, .val T.u32 (⟨true,x2,true,x3,true,x4,true, .nil⟩:Av).Mark),(1, .val T.b (⟨true,x2,true,x3,true,x4,true, .nil⟩:Av).Replace),(1, .own 3037)]),(3037, .row Ae s7.2)]⟩) (fun p8=>⟨[(2, .cp 2 0),(3, .cp 3 0)],[(2, .cells [(39, .val Ab x1)]),(3, .cells [(1, .val T.b (⟨true,x2,true,x3,true,x4,true, .nil⟩:Av).HasPrivate),(32, .val (A1 32 T.u8) (⟨true,x2,true,x3,true,x4,true, .nil⟩:Av).Private),(1, .val T.b (⟨true,x2,true,x3,true,x4,true, .nil⟩:Av).HasPort),(1, .val (T.int .i64) (⟨true,x2,true,x3,true,x4,true, .nil⟩:Av).Port),(1, .val T.b (⟨true,x2,true,x3,true,x4,true, .nil⟩:Av).HasMark),(1, .val T.u32 (⟨true,x2,true,x3,true,x4,true, .nil⟩:Av).Mark),(1, .val T.b (⟨true,x2,true,x3,true,x4,true, .nil⟩:Av).Replace),(1, .own 3037)]),(3037, .row Ae p8)]⟩) (0, .nil) sB (fun _=>r_) (fun s7=>
 Ai<|Ai<|Ag r_<|Al (Ay Ah)<|Aq (Ax (t:=Ad) (u:=(BM (T.sl Ac))) Ah r_ r_ A5 r_ r_) fun x9=>Ap (C4 (AH Ah)) fun x10=>Ap (AK r_ Ah Ah) fun x11=>Af<|Aa.cond Ah (Aa.skip<|At<|AE<|Ai<|Al (Ay Ah)<|Aq (Ax (t:=Ad) (u:=(BM (T.sl Ac))) Ah r_ r_ A5 r_ r_) fun x12=>Ag r_<|Aa.op (C0 r_ (AH Ah) Ah) fun x13=>Aq (DF r_ r_ Ah) fun x14=>Au (Bi (t:=Ac) 5 r_ r_) fun x15=>Au (Be Ah Ah r_ r_ (A0 _) r_) fun x16=>Af<|Aa.regd 2<|AL r_ (Ay Ah)<|AL r_ (FX Ah r_ r_ r_)<|AL r_ (Ay Ah)<|DE r_ (Ax (t:=Ac) (u:=(A1 32 T.u8)) Ah r_ r_ AF r_ r_) fun x17=>AL r_ (Ay Ah)<|DE r_ (Ax (t:=Ac) (u:=(A1 32 T.u8)) Ah r_ r_ C3 r_ r_) fun x18=>AL r_ (Ay Ah)<|DE r_ (Ax (t:=Ac) (u:=Az) Ah r_ r_ Bf r_ r_) fun x19=>Fv r_ (Dy r_ r_ (.nil _)) fun x20=>Fv r_ (Fy Bh r_ r_ Ah Ah) fun x21=>AL r_ (Ay Ah)<|DE r_ (Ax (t:=Ac) (u:=Az) Ah r_ r_ Bf r_ r_) fun x22=>AL r_ (Ay Ah)<|DE r_ (Ax (t:=Ac) (u:=(T.int .i64)) Ah r_ r_ BK r_ r_) fun x23=>AL r_ (Ay Ah)<|DE r_ (Ax (t:=Ac) (u:=(BM (T.sl An))) Ah r_ r_ AU r_ r_) fun x24=>Fv r_ (Dy r_ r_ (.cons Bo r_ Ah<| .cons By r_ CM<| .cons Ct r_ Ah<| .cons Bz r_ Ah<| .cons Cu r_ Ah<| .cons Bs r_ CM<| .cons Cj r_ Ah<| .cons BP r_ CM<| .cons BQ r_ (AH Ah)<| .nil _)) fun x25=>Fv r_ (KQ (t:=Ae) (n:=1) r_ r_ (.cons r_ Ah<| .nil _)) fun x26=>HR r_ (fun _=> .nil) (.nil) (I9 r_ Ah r_ (My Ah)) fun x27=>AL r_ (Ay Ah)<|Cf r_ (fun _=> .nil) (.nil) (Ms r_ r_ Ah Ah r_ r_) fun _=>Dk<|AR<|Af<|Ag r_<|Ap (BR (I:=(IT.int .i64)) Ah BA) fun x28=>Ag r_<|AY (x28,x27) sB) (Bb<|B1 s7.2 sB)) (fun p8=>Bc<|At<|Aa.frzRow 3037 r_ r_<|Aa.turn (G8 (j:=3) (t:=Ab) (⟨(⟨true,x2,true,x3,true,x4,true, .nil⟩:Av).HasPrivate,(⟨true,x2,true,x3,true,x4,true, .nil⟩:Av).Private,(⟨true,x2,true,x3,true,x4,true, .nil⟩:Av).HasPort,(⟨true,x2,true,x3,true,x4,true, .nil⟩:Av).Port,(⟨true,x2,true,x3,true,x4,true, .nil⟩:Av).HasMark,(⟨true,x2,true,x3,true,x4,true, .nil⟩:Av).Mark,(⟨true,x2,true,x3,true,x4,true, .nil⟩:Av).Replace,p8⟩:Av) r_ (.iso (.prod .one (.prod .one (.prod .one (.prod .one (.prod .one (.prod .one (.prod .one .one))))))) r_))<|
 Aq (Ax (t:=Ab) (u:=Ab) Ah r_ r_ (A0 _) r_ r_) fun x29=>Au (Be Ah Ah r_ r_ (A0 _) r_) fun x30=>Af<|Aa.ret (.one (FN r_ r_ r_ (A0 _) r_ r_)))
theorem Na:Spec tb D8 [Ad] [Ab] (fun a=>FO a):=
 Spec.of OL r_ r_ r_ Mw
noncomputable def GB(a0:(GS Aw))(a1:(GS Aw)):Option Bool:=let x3:= !decide ((a0.l.length:Int)=(a1.l.length:Int));if x3=true then some false else (iter (fun(s4:Int)=>if(decide (s4<(a0.l.length:Int)))=true then (Gg a0.l s4).bind fun x8=>(Gg a1.l s4).bind fun x10=>if(!(Dw BZ x8 x10))=true then (some false).map fun r=> .inr (.inr r) else some (.inl (IntKind.i64.wrap (s4+1))) else some (.inr (.inl ()))) 0).bind (Sum.elim (fun(p5:Unit)=>some true) some)
noncomputable def PT(a:CP [(T.sl An),(T.sl An)]):D2 tb Ip [(T.sl An),(T.sl An)] [T.b] a:=Ai<|Al (AQ CM)<|At<|Ai<|Ag r_<|Ap (C4 Ah) fun x1=>Ag r_<|Ap (C4 Ah) fun x2=>Ap (AK r_ Ah Ah) fun x3=>Af<|Aa.cond Ah (Ai<|Al (AQ CM)<|Af<|Aa.ret (.one (Bk r_))) (Aa.skip<|At<|Ai<|Al (AQ BA)<|Af<|AE<|Aa.loop (id:=0) (σ:=Int) (τ:=Unit) (fun s4=>⟨[(0, .val (T.sl An) a.1),(1, .val (T.sl An) a.2),(5, .val (T.int .i64) s4)],[]⟩) (fun p5=>⟨[],[]⟩) 0 sB (fun _=>r_) (fun s4=>Ai<|Ai<|Ag r_<|Ag r_<|Ap (C4 Ah) fun x6=>Ap (AK r_ Ah Ah) fun x7=>Af<|Aa.cond Ah (Aa.skip<|At<|AE<|Ai<|Ag r_<|Ag r_<|Aa.op (C0 r_ Ah Ah) fun x8=>Aq (DF r_ r_ Ah) fun x9=>Ag r_<|Ag r_<|Aa.op (C0 r_ Ah Ah) fun x10=>Aq (DF r_ r_ Ah) fun x11=>Ap (Fy BZ r_ r_ Ah Ah) fun x12=>Af<|Aa.cond Ah (Ai<|Al (AQ CM)<|Af<|Bq<|Aa.ret (.one (Bk r_))) (Aa.skip<|AR<|Af<|Ag r_<|Ap (BR (I:=(IT.int .i64)) Ah BA) fun x13=>Ag r_<|AY x13 sB)) (Bb<|B1 () sB)) (fun p5=>Bc<|At<|Al (AQ CM)<|Af<|Aa.ret (.one (Bk r_))))
theorem IJ:Spec tb DG [(T.sl An),(T.sl An)] [T.b] (fun a=>GB a.1 a.2):=
 Spec.of Ta r_ r_ r_ PT
noncomputable def Jr(a0:AG)(a1:AG):Option Av:=(F1 a0).bind fun x3=>(Ek (!x3) ((F1 a1).bind fun x6=>some (!x6))).bind fun x8=>if x8=true then let x9:=(⟨Ab.z.HasPrivate,Ab.z.Private,Ab.z.HasPort,Ab.z.Port,Ab.z.HasMark,Ab.z.Mark,Ab.z.Replace, .nil⟩:Av);some x9 else (G0 a0 a1).bind fun x13=>if(!x13)=true then (FO a1).bind fun x16=>some x16 else let x20:= !(Dw (Ba 32 Bg.u8) a0.Private a1.Private);(if x20=true then some (.inl (true,a1.Private)) else some (.inl (Ab.z.HasPrivate,Ab.z.Private)):Option ((Bool×(Ar UInt8 32))⊕_)).bind (Sum.elim (fun(p21:(Bool×(Ar UInt8 32)))=>(if(!decide (a0.Port=a1.Port))=true then some (.inl (true,a1.Port)) else some (.inl (Ab.z.HasPort,Ab.z.Port)):Option ((Bool×Int)⊕_)).bind (Sum.elim (fun(p26:(Bool×Int))=>let x30:= !decide ((a0.Mark.toNat:Int)=(a1.Mark.toNat:Int));(if x30=true then some (.inl (true,a1.Mark)) else some (.inl (Ab.z.HasMark,Ab.z.Mark)):Option ((Bool×UInt32)⊕_)).bind (Sum.elim (fun(p31:(Bool×UInt32))=>(iter (fun(s33:(Int×(GS Ak)))=>if(decide (s33.1<(a0.Peers.l.length:Int)))=true then (Gg a0.Peers.l s33.1).bind fun x40=>(Kk a1 x40.Key).bind fun x43=>if(decide (x43<0))=true then (Gg a0.Peers.l s33.1).bind fun x46=>let x49:=(⟨x46.Key,true,false,false,(A1 32 T.u8).z,false,Az.z,false,0,false, .nil⟩:Ak);(MS 152 s33.2 [x49]).bind fun x51=>some (.inl (IntKind.i64.wrap (s33.1+1),x51)) else some (.inl (IntKind.i64.wrap (s33.1+1),s33.2)) else some (.inr (.inl s33.2))) (0, .nil)).bind (Sum.elim (fun(p34:(GS Ak))=>(iter (fun(s54:(Int×(GS Ak)))=>if(decide (s54.1<(a1.Peers.l.length:Int)))=true then
 (Gg a1.Peers.l s54.1).bind fun x61=>(Kk a0 x61.Key).bind fun x64=>(BS (decide (0≤x64)) ((Gg a0.Peers.l x64).bind fun x67=>(Gg a1.Peers.l s54.1).bind fun x71=>(GB x67.Allowed x71.Allowed).bind fun x74=>some (!x74))).bind fun x76=>if x76=true then (Gg a1.Peers.l s54.1).bind fun x78=>let x81:=(⟨x78.Key,false,true,false,(A1 32 T.u8).z,false,Az.z,false,0,true, .nil⟩:Ak);(MS 152 s54.2 [x81]).bind fun x83=>some (.inl (IntKind.i64.wrap (s54.1+1),x83)) else some (.inl (IntKind.i64.wrap (s54.1+1),s54.2)) else some (.inr (.inl s54.2))) (0,p34)).bind (Sum.elim (fun(p55:(GS Ak))=>(iter (fun(s86:(Int×(GS Ak)))=>if(decide (s86.1<(a1.Peers.l.length:Int)))=true then (Gg a1.Peers.l s86.1).bind fun x92=>(Kk a0 x92.Key).bind fun x98=>let x100:=(⟨x92.Key,false,false,false,(A1 32 T.u8).z,false,Az.z,false,0,false, .nil⟩:Ak);let x104:=(⟨x92.Key,(A1 32 T.u8).z,Az.z,0,0,0, .nil⟩:Aj);(if(decide (0≤x98))=true then (Gg a0.Peers.l x98).bind fun x160=>some (.inl ({x100 with Update:=true},x160)) else some (.inl (x100,x104)):Option ((Ak×Aj)⊕_)).bind (Sum.elim (fun(p108:(Ak×Aj))=>(Ek (decide (x98<0)) (some (!(Dw (Ba 32 Bg.u8) p108.2.Psk x92.Psk)))).bind fun x114=>(if x114=true then let x158:={{p108.1 with HasPsk:=true}with Psk:=x92.Psk};some (.inl x158) else some (.inl p108.1):Option (Ak⊕_)).bind (Sum.elim (fun(p115:Ak)=>(if(!(Dw Bh p108.2.End x92.End))=true then let x155:={{p115 with HasEnd:=true}with End:=x92.End};some (.inl x155) else some (.inl p115):Option (Ak⊕_)).bind (Sum.elim (fun(p120:Ak)=>(Ek (decide (x98<0)) (some (!decide (p108.2.Keep=x92.Keep)))).bind fun x126=>
 (if x126=true then let x152:={{p120 with HasKeep:=true}with Keep:=x92.Keep};some (.inl x152) else some (.inl p120):Option (Ak⊕_)).bind (Sum.elim (fun(p127:Ak)=>(GB p108.2.Allowed x92.Allowed).bind fun x131=>(if(!x131)=true then some (.inl ({p127 with Allowed:=x92.Allowed})) else some (.inl p127):Option (Ak⊕_)).bind (Sum.elim (fun(p133:Ak)=>(Ek (decide (x98<0)) (some p133.HasPsk)).bind fun x137=>(Ek x137 (some p133.HasEnd)).bind fun x139=>(Ek x139 (some p133.HasKeep)).bind fun x141=>(Ek x141 (some (!x131))).bind fun x142=>if x142=true then (MS 152 s86.2 [p133]).bind fun x145=>some (.inl (IntKind.i64.wrap (s86.1+1),x145)) else some (.inl (IntKind.i64.wrap (s86.1+1),s86.2))) some)) some)) some)) some)) some) else some (.inr (.inl s86.2))) (0,p55)).bind (Sum.elim (fun(p87:(GS Ak))=>let x164:=(⟨p21.1,p21.2,p26.1,p26.2,p31.1,p31.2,Ab.z.Replace,p87⟩:Av);some x164) some)) some)) some)) some)) some)) some)
noncomputable def O1(a:CP [Ad,Ad]):D2 tb Hj [Ad,Ad] [Ab] a:=Ai<|Au (B5 (t:=Ad) 2 r_ r_ Ah) fun _=>Au (B5 (t:=Ad) 3 r_ r_ Ah) fun _=>Au (Bi (t:=Ab) 4 r_ r_) fun x1=>At<|Au (Mr.u (Bi (t:=Ab) 5 r_ r_)) fun _=>Aa.turn (JF (j:=5) r_ (.iso (.prod .one (.prod .one (.prod .one (.prod .one (.prod .one (.prod .one (.prod .one .one)))))))))<|Aa.turn (TO (t:=Ae) (i:=5) (o:=38) (j:=3057) r_ r_ r_ r_)<|At<|Ai<|Aq (Ax (t:=Ad) (u:=Ad) Ah r_ r_ (A0 _) r_ r_) fun x2=>Aa.op (AN Gi (.one Ah)) fun x3=>Ap (BI Ah) fun x4=>Ag r_<|Aa.or 3 r_ r_ r_ (A6 (Ax (t:=Ad) (u:=Ad) Ah r_ r_ (A0 _) r_ r_) fun x5=>AD.op (AN Gi (.one Ah)) fun x6=>AJ (BI Ah) fun x7=>AD.nil Ah) fun x8=>Af<|Aa.cond Ah (Ai<|Aa.frzRow 3057 r_ r_<|Aa.turn (G8 (j:=5) (t:=Ab) (⟨Ab.z.HasPrivate,Ab.z.Private,Ab.z.HasPort,Ab.z.Port,Ab.z.HasMark,Ab.z.Mark,Ab.z.Replace, .nil⟩:Av) r_ (.iso (.prod .one (.prod .one (.prod .one (.prod .one (.prod .one (.prod .one (.prod .one .one))))))) r_))<|Aq (Ax (t:=Ab) (u:=Ab) Ah r_ r_ (A0 _) r_ r_) fun x9=>Au (Be Ah Ah r_ r_ (A0 _) r_) fun x10=>Af<|Aa.ret (.one (FN r_ r_ r_ (A0 _) r_ r_))) (Aa.skip<|At<|Ai<|Aq (Ax (t:=Ad) (u:=Ad) Ah r_ r_ (A0 _) r_ r_) fun x11=>Aq (Ax (t:=Ad) (u:=Ad) Ah r_ r_ (A0 _) r_ r_) fun x12=>Aa.op (AN K0 (.cons Ah<| .one Ah)) fun x13=>Ap (BI Ah) fun x14=>Af<|Aa.cond Ah (Ai<|Aq (Ax (t:=Ad) (u:=Ad) Ah r_ r_ (A0 _) r_ r_) fun x15=>Aa.op (AN Na (.one Ah)) fun x16=>Au (Be Ah Ah r_ r_ (A0 _) r_) fun x17=>Af<|Aa.ret (.one (FN r_ r_ r_ (A0 _) r_ r_))) (Aa.skip<|At<|Ai<|Al (Ay Ah)<|Aq (Ax (t:=Ad) (u:=(A1 32 T.u8)) Ah r_ r_ BH r_ r_) fun x18=>
 Al (Ay Ah)<|Aq (Ax (t:=Ad) (u:=(A1 32 T.u8)) Ah r_ r_ BH r_ r_) fun x19=>Ap (Fy (Ba 32 Bg.u8) r_ r_ Ah Ah) fun x20=>Af<|CA (τ:=(Bool×(Ar UInt8 32))) (fun p21=>⟨[(2, .cp 2 0),(3, .cp 3 0),(4, .cp 4 0),(5, .cp 5 0)],[(2, .cells [(35, .val Ad a.1)]),(3, .cells [(35, .val Ad a.2)]),(4, .cells [(39, .val Ab x1)]),(5, .cells [(1, .val T.b p21.1),(32, .val (A1 32 T.u8) p21.2),(1, .val T.b Ab.z.HasPort),(1, .val (T.int .i64) Ab.z.Port),(1, .val T.b Ab.z.HasMark),(1, .val T.u32 Ab.z.Mark),(1, .val T.b Ab.z.Replace),(1, .own 3057)]),GL]⟩) (fun p21=>At<|Ai<|Al (Ay Ah)<|Aq (Ax (t:=Ad) (u:=(T.int .i64)) Ah r_ r_ BL r_ r_) fun x23=>Al (Ay Ah)<|Aq (Ax (t:=Ad) (u:=(T.int .i64)) Ah r_ r_ BL r_ r_) fun x24=>Ap (AK r_ Ah Ah) fun x25=>Af<|CA (τ:=(Bool×Int)) (fun p26=>⟨[(2, .cp 2 0),(3, .cp 3 0),(4, .cp 4 0),(5, .cp 5 0)],[(2, .cells [(35, .val Ad a.1)]),(3, .cells [(35, .val Ad a.2)]),(4, .cells [(39, .val Ab x1)]),(5, .cells [(1, .val T.b p21.1),(32, .val (A1 32 T.u8) p21.2),(1, .val T.b p26.1),(1, .val (T.int .i64) p26.2),(1, .val T.b Ab.z.HasMark),(1, .val T.u32 Ab.z.Mark),(1, .val T.b Ab.z.Replace),(1, .own 3057)]),GL]⟩) (fun p26=>At<|Ai<|Al (Ay Ah)<|Aq (Ax (t:=Ad) (u:=T.u32) Ah r_ r_ Cn r_ r_) fun x28=>Al (Ay Ah)<|Aq (Ax (t:=Ad) (u:=T.u32) Ah r_ r_ Cn r_ r_) fun x29=>Ap (NC (I:=IT.u32) r_ Ah Ah) fun x30=>Af<|CA (τ:=(Bool×UInt32)) (fun p31=>⟨[(2, .cp 2 0),(3, .cp 3 0),(4, .cp 4 0),(5, .cp 5 0)],[(2, .cells [(35, .val Ad a.1)]),(3, .cells [(35, .val Ad a.2)]),(4, .cells [(39, .val Ab x1)]),(5, .cells [(1, .val T.b p21.1),(32, .val (A1 32 T.u8) p21.2),(1, .val T.b p26.1),(1, .val (T.int .i64) p26.2),(1, .val T.b p31.1),(1, .val T.u32 p31.2),(1, .val T.b Ab.z.Replace),(1, .own 3057)]),GL]⟩) (fun p31=>
 At<|Ai<|Al (AQ BA)<|Af<|AE<|Aa.loop (id:=0) (σ:=(Int×(GS Ak))) (τ:=(GS Ak)) (fun s33=>⟨[(2, .cp 2 0),(3, .cp 3 0),(4, .cp 4 0),(5, .cp 5 0),(6, .val (T.int .i64) s33.1)],[(2, .cells [(35, .val Ad a.1)]),(3, .cells [(35, .val Ad a.2)]),(4, .cells [(39, .val Ab x1)]),(5, .cells [(1, .val T.b p21.1),(32, .val (A1 32 T.u8) p21.2),(1, .val T.b p26.1),(1, .val (T.int .i64) p26.2),(1, .val T.b p31.1),(1, .val T.u32 p31.2),(1, .val T.b Ab.z.Replace),(1, .own 3057)]),(3057, .row Ae s33.2)]⟩) (fun p34=>⟨[(2, .cp 2 0),(3, .cp 3 0),(4, .cp 4 0),(5, .cp 5 0)],[(2, .cells [(35, .val Ad a.1)]),(3, .cells [(35, .val Ad a.2)]),(4, .cells [(39, .val Ab x1)]),(5, .cells [(1, .val T.b p21.1),(32, .val (A1 32 T.u8) p21.2),(1, .val T.b p26.1),(1, .val (T.int .i64) p26.2),(1, .val T.b p31.1),(1, .val T.u32 p31.2),(1, .val T.b Ab.z.Replace),(1, .own 3057)]),(3057, .row Ae p34)]⟩) (0, .nil) sB (fun _=>r_) (fun s33=>Ai<|Ai<|Ag r_<|Al (Ay Ah)<|Aq (Ax (t:=Ad) (u:=(BM (T.sl Ac))) Ah r_ r_ A5 r_ r_) fun x35=>Ap (C4 (AH Ah)) fun x36=>Ap (AK r_ Ah Ah) fun x37=>Af<|Aa.cond Ah (Aa.skip<|At<|AE<|Ai<|Aq (Ax (t:=Ad) (u:=Ad) Ah r_ r_ (A0 _) r_ r_) fun x38=>Al (Ay Ah)<|Aq (Ax (t:=Ad) (u:=(BM (T.sl Ac))) Ah r_ r_ A5 r_ r_) fun x39=>Ag r_<|Aa.op (C0 r_ (AH Ah) Ah) fun x40=>Ix (JJ AF Ah) fun x41=>Aq (DF r_ r_ Ah) fun x42=>Aa.op (AN Jo (.cons Ah<| .one Ah)) fun x43=>Ap (AK r_ Ah BA) fun x44=>Af<|Aa.cond Ah (Aa.regd 2<|AL r_ (Ay Ah)<|AL r_ (FX Ah r_ r_ r_)<|AL r_ (Ay Ah)<|DE r_ (Ax (t:=Ad) (u:=(BM (T.sl Ac))) Ah r_ r_ A5 r_ r_) fun x45=>
 AL r_ (AQ (IE r_))<|AM.op r_ (C0 r_ (AH Ah) Ah) fun x46=>Sj r_ (JJ AF Ah) fun x47=>DE r_ (DF r_ r_ Ah) fun x48=>Fv r_ (Dy r_ r_ (.cons Bo r_ Ah<| .cons Cs r_ CM<| .nil _)) fun x49=>Fv r_ (KQ (t:=Ae) (n:=1) r_ r_ (.cons r_ Ah<| .nil _)) fun x50=>HR r_ (fun _=> .nil) (.nil) (I9 r_ Ah r_ (My Ah)) fun x51=>AL r_ (Ay Ah)<|Cf r_ (fun _=> .nil) (.nil) (Ms r_ r_ Ah Ah r_ r_) fun _=>Dk<|AR<|Af<|Ag r_<|Ap (BR (I:=(IT.int .i64)) Ah BA) fun x52=>Ag r_<|AY (x52,x51) sB) (Aa.skip<|AR<|Af<|Ag r_<|Ap (BR (I:=(IT.int .i64)) Ah BA) fun x53=>Ag r_<|AY (x53,s33.2) sB)) (Bb<|B1 s33.2 sB)) (fun p34=>Bc<|At<|Ai<|Al (AQ BA)<|Af<|AE<|Aa.loop (id:=2) (σ:=(Int×(GS Ak))) (τ:=(GS Ak)) (fun s54=>⟨[(2, .cp 2 0),(3, .cp 3 0),(4, .cp 4 0),(5, .cp 5 0),(7, .val (T.int .i64) s54.1)],[(2, .cells [(35, .val Ad a.1)]),(3, .cells [(35, .val Ad a.2)]),(4, .cells [(39, .val Ab x1)]),(5, .cells [(1, .val T.b p21.1),(32, .val (A1 32 T.u8) p21.2),(1, .val T.b p26.1),(1, .val (T.int .i64) p26.2),(1, .val T.b p31.1),(1, .val T.u32 p31.2),(1, .val T.b Ab.z.Replace),(1, .own 3057)]),(3057, .row Ae s54.2)]⟩) (fun p55=>⟨[(2, .cp 2 0),(3, .cp 3 0),(4, .cp 4 0),(5, .cp 5 0)],[(2, .cells [(35, .val Ad a.1)]),(3, .cells [(35, .val Ad a.2)]),(4, .cells [(39, .val Ab x1)]),(5, .cells [(1, .val T.b p21.1),(32, .val (A1 32 T.u8) p21.2),(1, .val T.b p26.1),(1, .val (T.int .i64) p26.2),(1, .val T.b p31.1),(1, .val T.u32 p31.2),(1, .val T.b Ab.z.Replace),(1, .own 3057)]),(3057, .row Ae p55)]⟩) (0,p34) sB (fun _=>r_) (fun s54=>Ai<|Ai<|Ag r_<|
 Al (Ay Ah)<|Aq (Ax (t:=Ad) (u:=(BM (T.sl Ac))) Ah r_ r_ A5 r_ r_) fun x56=>Ap (C4 (AH Ah)) fun x57=>Ap (AK r_ Ah Ah) fun x58=>Af<|Aa.cond Ah (Aa.skip<|At<|AE<|Ai<|Aq (Ax (t:=Ad) (u:=Ad) Ah r_ r_ (A0 _) r_ r_) fun x59=>Al (Ay Ah)<|Aq (Ax (t:=Ad) (u:=(BM (T.sl Ac))) Ah r_ r_ A5 r_ r_) fun x60=>Ag r_<|Aa.op (C0 r_ (AH Ah) Ah) fun x61=>Ix (JJ AF Ah) fun x62=>Aq (DF r_ r_ Ah) fun x63=>Aa.op (AN Jo (.cons Ah<| .one Ah)) fun x64=>Ag r_<|At<|Ag r_<|Ap (AK r_ Ah BA) fun x65=>Ag r_<|Aa.and 14 r_ r_ r_ (A8 (Ay Ah)<|A6 (Ax (t:=Ad) (u:=(BM (T.sl Ac))) Ah r_ r_ A5 r_ r_) fun x66=>A8 (AQ (IE r_))<|AD.op (C0 r_ (AH Ah) Ah) fun x67=>Iz (JJ AU Ah) fun x68=>A6 (DF r_ r_ Ah) fun x69=>A8 (Ay Ah)<|A6 (Ax (t:=Ad) (u:=(BM (T.sl Ac))) Ah r_ r_ A5 r_ r_) fun x70=>A8 (AQ (IE r_))<|AD.op (C0 r_ (AH Ah) Ah) fun x71=>Iz (JJ AU Ah) fun x72=>A6 (DF r_ r_ Ah) fun x73=>AD.op (AN IJ (.cons (AH Ah)<| .one (AH Ah))) fun x74=>AJ (BI Ah) fun x75=>AD.nil Ah) fun x76=>Af<|Aa.cond Ah (Aa.regd 2<|AL r_ (Ay Ah)<|AL r_ (FX Ah r_ r_ r_)<|AL r_ (Ay Ah)<|DE r_ (Ax (t:=Ad) (u:=(BM (T.sl Ac))) Ah r_ r_ A5 r_ r_) fun x77=>AL r_ (AQ (IE r_))<|AM.op r_ (C0 r_ (AH Ah) Ah) fun x78=>Sj r_ (JJ AF Ah) fun x79=>DE r_ (DF r_ r_ Ah) fun x80=>Fv r_ (Dy r_ r_ (.cons Bo r_ Ah<| .cons BW r_ CM<| .cons BP r_ CM<| .nil _)) fun x81=>Fv r_ (KQ (t:=Ae) (n:=1) r_ r_ (.cons r_ Ah<| .nil _)) fun x82=>HR r_ (fun _=> .nil) (.nil) (I9 r_ Ah r_ (My Ah)) fun x83=>AL r_ (Ay Ah)<|Cf r_ (fun _=> .nil) (.nil) (Ms r_ r_ Ah Ah r_ r_) fun _=>Dk<|AR<|Af<|Ag r_<|
 Ap (BR (I:=(IT.int .i64)) Ah BA) fun x84=>Ag r_<|AY (x84,x83) sB) (Aa.skip<|AR<|Af<|Ag r_<|Ap (BR (I:=(IT.int .i64)) Ah BA) fun x85=>Ag r_<|AY (x85,s54.2) sB)) (Bb<|B1 s54.2 sB)) (fun p55=>Bc<|At<|Ai<|Al (AQ BA)<|Af<|AE<|Aa.loop (id:=4) (σ:=(Int×(GS Ak))) (τ:=(GS Ak)) (fun s86=>⟨[(2, .cp 2 0),(3, .cp 3 0),(4, .cp 4 0),(5, .cp 5 0),(9, .val (T.int .i64) s86.1)],[(2, .cells [(35, .val Ad a.1)]),(3, .cells [(35, .val Ad a.2)]),(4, .cells [(39, .val Ab x1)]),(5, .cells [(1, .val T.b p21.1),(32, .val (A1 32 T.u8) p21.2),(1, .val T.b p26.1),(1, .val (T.int .i64) p26.2),(1, .val T.b p31.1),(1, .val T.u32 p31.2),(1, .val T.b Ab.z.Replace),(1, .own 3057)]),(3057, .row Ae s86.2)]⟩) (fun p87=>⟨[(4, .cp 4 0),(5, .cp 5 0)],[(4, .cells [(39, .val Ab x1)]),(5, .cells [(1, .val T.b p21.1),(32, .val (A1 32 T.u8) p21.2),(1, .val T.b p26.1),(1, .val (T.int .i64) p26.2),(1, .val T.b p31.1),(1, .val T.u32 p31.2),(1, .val T.b Ab.z.Replace),(1, .own 3057)]),(3057, .row Ae p87)]⟩) (0,p55) sB (fun _=>r_) (fun s86=>Ai<|Ai<|Ag r_<|Al (Ay Ah)<|Aq (Ax (t:=Ad) (u:=(BM (T.sl Ac))) Ah r_ r_ A5 r_ r_) fun x88=>Ap (C4 (AH Ah)) fun x89=>Ap (AK r_ Ah Ah) fun x90=>Af<|Aa.cond Ah (Aa.skip<|At<|AE<|Ai<|Al (Ay Ah)<|Aq (Ax (t:=Ad) (u:=(BM (T.sl Ac))) Ah r_ r_ A5 r_ r_) fun x91=>Ag r_<|Aa.op (C0 r_ (AH Ah) Ah) fun x92=>Aq (DF r_ r_ Ah) fun x93=>Au (Bi (t:=Ac) 10 r_ r_) fun x94=>Au (Be Ah Ah r_ r_ (A0 _) r_) fun x95=>At<|Aq (Ax (t:=Ad) (u:=Ad) Ah r_ r_ (A0 _) r_ r_) fun x96=>Al (Ay Ah)<|Aq (Ax (t:=Ac) (u:=(A1 32 T.u8)) Ah r_ r_ AF r_ r_) fun x97=>
 Aa.op (AN Jo (.cons Ah<| .one Ah)) fun x98=>Ag r_<|At<|Al (Ay Ah)<|Aq (Ax (t:=Ac) (u:=(A1 32 T.u8)) Ah r_ r_ AF r_ r_) fun x99=>Ap (Dy r_ r_ (.cons Bo r_ Ah<| .nil _)) fun x100=>Au (Bi (t:=Ae) 12 r_ r_) fun x101=>Au (Be Ah Ah r_ r_ (A0 _) r_) fun x102=>At<|Al (Ay Ah)<|Aq (Ax (t:=Ac) (u:=(A1 32 T.u8)) Ah r_ r_ AF r_ r_) fun x103=>Ap (Dy r_ r_ (.cons AF r_ Ah<| .nil _)) fun x104=>Au (Bi (t:=Ac) 13 r_ r_) fun x105=>Au (Be Ah Ah r_ r_ (A0 _) r_) fun x106=>At<|Ai<|Ag r_<|Ap (AK r_ Ah BA) fun x107=>Af<|CA (τ:=(Ak×Aj)) (fun p108=>⟨[(2, .cp 2 0),(3, .cp 3 0),(4, .cp 4 0),(5, .cp 5 0),(9, .val (T.int .i64) s86.1),(10, .cp 10 0),(11, .val (T.int .i64) x98),(12, .cp 12 0),(13, .cp 13 0)],[(2, .cells [(35, .val Ad a.1)]),(3, .cells [(35, .val Ad a.2)]),(4, .cells [(39, .val Ab x1)]),(5, .cells [(1, .val T.b p21.1),(32, .val (A1 32 T.u8) p21.2),(1, .val T.b p26.1),(1, .val (T.int .i64) p26.2),(1, .val T.b p31.1),(1, .val T.u32 p31.2),(1, .val T.b Ab.z.Replace),(1, .own 3057)]),(10, .cells [(86, .val Ac x95)]),(12, .cells [(90, .val Ae p108.1)]),(13, .cells [(86, .val Ac p108.2)]),(3057, .row Ae s86.2)]⟩) (fun p108=>At<|Ai<|Ag r_<|Ap (AK r_ Ah BA) fun x110=>Ag r_<|Aa.or 5 r_ r_ r_ (A8 (Ay Ah)<|A6 (Ax (t:=Ac) (u:=(A1 32 T.u8)) Ah r_ r_ C3 r_ r_) fun x111=>A8 (Ay Ah)<|A6 (Ax (t:=Ac) (u:=(A1 32 T.u8)) Ah r_ r_ C3 r_ r_) fun x112=>AJ (Fy (Ba 32 Bg.u8) r_ r_ Ah Ah) fun x113=>AD.nil Ah) fun x114=>Af<|CA (τ:=Ak) (fun p115=>⟨[(2, .cp 2 0),(3, .cp 3 0),(4, .cp 4 0),(5, .cp 5 0),(9, .val (T.int .i64) s86.1),(10, .cp 10 0),(11, .val (T.int .i64) x98),(12, .cp 12 0),(13, .cp 13 0)],[(2, .cells [(35, .val Ad a.1)]),(3, .cells [(35, .val Ad a.2)]),(4, .cells [(39, .val Ab x1)]),(5, .cells [(1, .val T.b p21.1),(32, .val (A1 32 T.u8) p21.2),(1, .val T.b p26.1),(1, .val (T.int .i64) p26.2),(1, .val T.b p31.1),(1, .val T.u32 p31.2),(1, .val T.b Ab.z.Replace),(1, .own 3057)]),(10, .cells [(86, .val Ac x95)]),(12, .cells [(90, .val Ae p115)]),(13, .cells [(86, .val Ac p108.2)]),(3057, .row Ae s86.2)]⟩) (fun p115=>
 At<|Ai<|Al (Ay Ah)<|Aq (Ax (t:=Ac) (u:=Az) Ah r_ r_ Bf r_ r_) fun x117=>Al (Ay Ah)<|Aq (Ax (t:=Ac) (u:=Az) Ah r_ r_ Bf r_ r_) fun x118=>Ap (Fy Bh r_ r_ Ah Ah) fun x119=>Af<|CA (τ:=Ak) (fun p120=>⟨[(2, .cp 2 0),(3, .cp 3 0),(4, .cp 4 0),(5, .cp 5 0),(9, .val (T.int .i64) s86.1),(10, .cp 10 0),(11, .val (T.int .i64) x98),(12, .cp 12 0),(13, .cp 13 0)],[(2, .cells [(35, .val Ad a.1)]),(3, .cells [(35, .val Ad a.2)]),(4, .cells [(39, .val Ab x1)]),(5, .cells [(1, .val T.b p21.1),(32, .val (A1 32 T.u8) p21.2),(1, .val T.b p26.1),(1, .val (T.int .i64) p26.2),(1, .val T.b p31.1),(1, .val T.u32 p31.2),(1, .val T.b Ab.z.Replace),(1, .own 3057)]),(10, .cells [(86, .val Ac x95)]),(12, .cells [(90, .val Ae p120)]),(13, .cells [(86, .val Ac p108.2)]),(3057, .row Ae s86.2)]⟩) (fun p120=>At<|Ai<|Ag r_<|Ap (AK r_ Ah BA) fun x122=>Ag r_<|Aa.or 5 r_ r_ r_ (A8 (Ay Ah)<|A6 (Ax (t:=Ac) (u:=(T.int .i64)) Ah r_ r_ BK r_ r_) fun x123=>A8 (Ay Ah)<|A6 (Ax (t:=Ac) (u:=(T.int .i64)) Ah r_ r_ BK r_ r_) fun x124=>AJ (AK r_ Ah Ah) fun x125=>AD.nil Ah) fun x126=>Af<|CA (τ:=Ak) (fun p127=>⟨[(2, .cp 2 0),(3, .cp 3 0),(4, .cp 4 0),(5, .cp 5 0),(9, .val (T.int .i64) s86.1),(10, .cp 10 0),(11, .val (T.int .i64) x98),(12, .cp 12 0),(13, .cp 13 0)],[(2, .cells [(35, .val Ad a.1)]),(3, .cells [(35, .val Ad a.2)]),(4, .cells [(39, .val Ab x1)]),(5, .cells [(1, .val T.b p21.1),(32, .val (A1 32 T.u8) p21.2),(1, .val T.b p26.1),(1, .val (T.int .i64) p26.2),(1, .val T.b p31.1),(1, .val T.u32 p31.2),(1, .val T.b Ab.z.Replace),(1, .own 3057)]),(10, .cells [(86, .val Ac x95)]),(12, .cells [(90, .val Ae p127)]),(13, .cells [(86, .val Ac p108.2)]),(3057, .row Ae s86.2)]⟩) (fun p127=>
 At<|Al (Ay Ah)<|Aq (Ax (t:=Ac) (u:=(BM (T.sl An))) Ah r_ r_ AU r_ r_) fun x129=>Al (Ay Ah)<|Aq (Ax (t:=Ac) (u:=(BM (T.sl An))) Ah r_ r_ AU r_ r_) fun x130=>Aa.op (AN IJ (.cons (AH Ah)<| .one (AH Ah))) fun x131=>Ap (BI Ah) fun x132=>Ag r_<|At<|Ai<|Ag r_<|Af<|CA (τ:=Ak) (fun p133=>⟨[(2, .cp 2 0),(3, .cp 3 0),(4, .cp 4 0),(5, .cp 5 0),(9, .val (T.int .i64) s86.1),(11, .val (T.int .i64) x98),(12, .cp 12 0),(14, .val T.b x132)],[(2, .cells [(35, .val Ad a.1)]),(3, .cells [(35, .val Ad a.2)]),(4, .cells [(39, .val Ab x1)]),(5, .cells [(1, .val T.b p21.1),(32, .val (A1 32 T.u8) p21.2),(1, .val T.b p26.1),(1, .val (T.int .i64) p26.2),(1, .val T.b p31.1),(1, .val T.u32 p31.2),(1, .val T.b Ab.z.Replace),(1, .own 3057)]),(12, .cells [(90, .val Ae p133)]),(3057, .row Ae s86.2)]⟩) (fun p133=>At<|Ag r_<|Ap (AK r_ Ah BA) fun x135=>Ag r_<|Aa.or 2 r_ r_ r_ (A8 (Ay Ah)<|A6 (Ax (t:=Ae) (u:=T.b) Ah r_ r_ By r_ r_) fun x136=>AD.nil Ah) fun x137=>Ag r_<|Aa.or 2 r_ r_ r_ (A8 (Ay Ah)<|A6 (Ax (t:=Ae) (u:=T.b) Ah r_ r_ Bz r_ r_) fun x138=>AD.nil Ah) fun x139=>Ag r_<|Aa.or 2 r_ r_ r_ (A8 (Ay Ah)<|A6 (Ax (t:=Ae) (u:=T.b) Ah r_ r_ Bs r_ r_) fun x140=>AD.nil Ah) fun x141=>Ag r_<|Aa.or 1 r_ r_ r_ (A8 (AQ (IE r_))<|AD.nil Ah) fun x142=>Af<|Aa.cond Ah (Al (Ay Ah)<|Al (FX Ah r_ r_ r_)<|Aq (Ax (t:=Ae) (u:=Ae) Ah r_ r_ (A0 _) r_ r_) fun x143=>Ap (KQ (t:=Ae) (n:=1) r_ r_ (.cons r_ Ah<| .nil _)) fun x144=>Ej (I9 r_ Ah r_ (My Ah)) fun x145=>Al (Ay Ah)<|Au (Ms r_ r_ Ah Ah r_ r_) fun _=>AR<|Af<|Ag r_<|Ap (BR (I:=(IT.int .i64)) Ah BA) fun x146=>
 Ag r_<|AY (x146,x145) sB) (Aa.skip<|AR<|Af<|Ag r_<|Ap (BR (I:=(IT.int .i64)) Ah BA) fun x147=>Ag r_<|AY (x147,s86.2) sB))<|Aa.cond Ah (Al (Ay Ah)<|Aq (Ax (t:=Ac) (u:=(BM (T.sl An))) Ah r_ r_ AU r_ r_) fun x148=>Al (Ay Ah)<|Au (Be Ah (AH Ah) r_ r_ BQ r_) fun x149=>Cw x149 sB) (Aa.skip<|Cw p127 sB))<|Aa.cond Ah (Ai<|Al (Ay Ah)<|Au (Be Ah CM r_ r_ Bs r_) fun x150=>Af<|Al (Ay Ah)<|Aq (Ax (t:=Ac) (u:=(T.int .i64)) Ah r_ r_ BK r_ r_) fun x151=>Al (Ay Ah)<|Au (Be Ah Ah r_ r_ Cj r_) fun x152=>Cw x152 sB) (Aa.skip<|Cw p120 sB))<|Aa.cond Ah (Ai<|Al (Ay Ah)<|Au (Be Ah CM r_ r_ Bz r_) fun x153=>Af<|Al (Ay Ah)<|Aq (Ax (t:=Ac) (u:=Az) Ah r_ r_ Bf r_ r_) fun x154=>Al (Ay Ah)<|Au (Be Ah Ah r_ r_ Cu r_) fun x155=>Cw x155 sB) (Aa.skip<|Cw p115 sB))<|Aa.cond Ah (Ai<|Al (Ay Ah)<|Au (Be Ah CM r_ r_ By r_) fun x156=>Af<|Al (Ay Ah)<|Aq (Ax (t:=Ac) (u:=(A1 32 T.u8)) Ah r_ r_ C3 r_ r_) fun x157=>Al (Ay Ah)<|Au (Be Ah Ah r_ r_ Ct r_) fun x158=>Cw x158 sB) (Aa.skip<|Cw p108.1 sB))<|Aa.cond Ah (Ai<|Al (Ay Ah)<|Aq (Ax (t:=Ad) (u:=(BM (T.sl Ac))) Ah r_ r_ A5 r_ r_) fun x159=>Ag r_<|Aa.op (C0 r_ (AH Ah) Ah) fun x160=>Aq (DF r_ r_ Ah) fun x161=>Au (Be Ah Ah r_ r_ (A0 _) r_) fun x162=>Af<|Al (Ay Ah)<|Au (Be Ah CM r_ r_ BW r_) fun x163=>Cw (x163,x162) sB) (Aa.skip<|Cw (x102,x106) sB)) (Bb<|B1 s86.2 sB)) (fun p87=>Bc<|At<|Aa.frzRow 3057 r_ r_<|Aa.turn (G8 (j:=5) (t:=Ab) (⟨p21.1,p21.2,p26.1,p26.2,p31.1,p31.2,Ab.z.Replace,p87⟩:Av) r_ (.iso (.prod .one (.prod .one (.prod .one (.prod .one (.prod .one (.prod .one (.prod .one .one))))))) r_))<|
 Aq (Ax (t:=Ab) (u:=Ab) Ah r_ r_ (A0 _) r_ r_) fun x164=>Au (Be Ah Ah r_ r_ (A0 _) r_) fun x165=>Af<|Aa.ret (.one (FN r_ r_ r_ (A0 _) r_ r_))))))<|Aa.cond Ah (Ai<|Al (Ay Ah)<|Au (Be Ah CM r_ r_ (A0 _) r_) fun x166=>Af<|Al (Ay Ah)<|Aq (Ax (t:=Ad) (u:=T.u32) Ah r_ r_ Cn r_ r_) fun x167=>Al (Ay Ah)<|Au (Be Ah Ah r_ r_ (A0 _) r_) fun x168=>Cw (x166,x168) sB) (Aa.skip<|Cw (Ab.z.HasMark,Ab.z.Mark) sB))<|Aa.cond Ah (Ai<|Al (Ay Ah)<|Au (Be Ah CM r_ r_ (A0 _) r_) fun x169=>Af<|Al (Ay Ah)<|Aq (Ax (t:=Ad) (u:=(T.int .i64)) Ah r_ r_ BL r_ r_) fun x170=>Al (Ay Ah)<|Au (Be Ah Ah r_ r_ (A0 _) r_) fun x171=>Cw (x169,x171) sB) (Aa.skip<|Cw (Ab.z.HasPort,Ab.z.Port) sB))<|Aa.cond Ah (Ai<|Al (Ay Ah)<|Au (Be Ah CM r_ r_ (A0 _) r_) fun x172=>Af<|Al (Ay Ah)<|Aq (Ax (t:=Ad) (u:=(A1 32 T.u8)) Ah r_ r_ BH r_ r_) fun x173=>Al (Ay Ah)<|Au (Be Ah Ah r_ r_ (A0 _) r_) fun x174=>Cw (x172,x174) sB) (Aa.skip<|Cw (Ab.z.HasPrivate,Ab.z.Private) sB)))
theorem PG:Spec tb Ew [Ad,Ad] [Ab] (fun a=>Jr a.1 a.2):=
 Spec.of RK r_ r_ r_ O1
noncomputable def Fe(a0:Ak)(a1:Ak):Option Bool:=(BS (Dw (Ba 32 Bg.u8) a0.Key a1.Key) (some (decide (a0.Remove=a1.Remove)))).bind fun x7=>(BS x7 (some (decide (a0.Update=a1.Update)))).bind fun x11=>(BS x11 (some (decide (a0.HasPsk=a1.HasPsk)))).bind fun x15=>(BS x15 (some (Dw (Ba 32 Bg.u8) a0.Psk a1.Psk))).bind fun x19=>(BS x19 (some (decide (a0.HasEnd=a1.HasEnd)))).bind fun x23=>(BS x23 (some (Dw Bh a0.End a1.End))).bind fun x27=>(BS x27 (some (decide (a0.HasKeep=a1.HasKeep)))).bind fun x31=>(BS x31 (some (decide (a0.Keep=a1.Keep)))).bind fun x35=>(BS x35 (some (decide (a0.Replace=a1.Replace)))).bind fun x39=>(BS x39 ((GB a0.Allowed a1.Allowed).bind fun x42=>some x42)).bind fun x43=>some x43
noncomputable def Lz(a:CP [Ae,Ae]):D2 tb Fl [Ae,Ae] [T.b] a:=Ai<|Au (B5 (t:=Ae) 2 r_ r_ Ah) fun _=>Au (B5 (t:=Ae) 3 r_ r_ Ah) fun _=>Al (AQ CM)<|At<|Al (Ay Ah)<|Aq (Ax (t:=Ae) (u:=(A1 32 T.u8)) Ah r_ r_ Bo r_ r_) fun x1=>Al (Ay Ah)<|Aq (Ax (t:=Ae) (u:=(A1 32 T.u8)) Ah r_ r_ Bo r_ r_) fun x2=>Ap (Fy (Ba 32 Bg.u8) r_ r_ Ah Ah) fun x3=>Ag r_<|Aa.and 5 r_ r_ r_ (A8 (Ay Ah)<|A6 (Ax (t:=Ae) (u:=T.b) Ah r_ r_ Cs r_ r_) fun x4=>A8 (Ay Ah)<|A6 (Ax (t:=Ae) (u:=T.b) Ah r_ r_ Cs r_ r_) fun x5=>AJ (I6 (neg:=false) Ah Ah) fun x6=>AD.nil Ah) fun x7=>Ag r_<|Aa.and 5 r_ r_ r_ (A8 (Ay Ah)<|A6 (Ax (t:=Ae) (u:=T.b) Ah r_ r_ BW r_ r_) fun x8=>A8 (Ay Ah)<|A6 (Ax (t:=Ae) (u:=T.b) Ah r_ r_ BW r_ r_) fun x9=>AJ (I6 (neg:=false) Ah Ah) fun x10=>AD.nil Ah) fun x11=>Ag r_<|Aa.and 5 r_ r_ r_ (A8 (Ay Ah)<|A6 (Ax (t:=Ae) (u:=T.b) Ah r_ r_ By r_ r_) fun x12=>A8 (Ay Ah)<|A6 (Ax (t:=Ae) (u:=T.b) Ah r_ r_ By r_ r_) fun x13=>AJ (I6 (neg:=false) Ah Ah) fun x14=>AD.nil Ah) fun x15=>Ag r_<|Aa.and 5 r_ r_ r_ (A8 (Ay Ah)<|A6 (Ax (t:=Ae) (u:=(A1 32 T.u8)) Ah r_ r_ Ct r_ r_) fun x16=>A8 (Ay Ah)<|A6 (Ax (t:=Ae) (u:=(A1 32 T.u8)) Ah r_ r_ Ct r_ r_) fun x17=>AJ (Fy (Ba 32 Bg.u8) r_ r_ Ah Ah) fun x18=>AD.nil Ah) fun x19=>Ag r_<|Aa.and 5 r_ r_ r_ (A8 (Ay Ah)<|A6 (Ax (t:=Ae) (u:=T.b) Ah r_ r_ Bz r_ r_) fun x20=>A8 (Ay Ah)<|A6 (Ax (t:=Ae) (u:=T.b) Ah r_ r_ Bz r_ r_) fun x21=>AJ (I6 (neg:=false) Ah Ah) fun x22=>AD.nil Ah) fun x23=>Ag r_<|Aa.and 5 r_ r_ r_ (A8 (Ay Ah)<|A6 (Ax (t:=Ae) (u:=Az) Ah r_ r_ Cu r_ r_) fun x24=>A8 (Ay Ah)<|
 A6 (Ax (t:=Ae) (u:=Az) Ah r_ r_ Cu r_ r_) fun x25=>AJ (Fy Bh r_ r_ Ah Ah) fun x26=>AD.nil Ah) fun x27=>Ag r_<|Aa.and 5 r_ r_ r_ (A8 (Ay Ah)<|A6 (Ax (t:=Ae) (u:=T.b) Ah r_ r_ Bs r_ r_) fun x28=>A8 (Ay Ah)<|A6 (Ax (t:=Ae) (u:=T.b) Ah r_ r_ Bs r_ r_) fun x29=>AJ (I6 (neg:=false) Ah Ah) fun x30=>AD.nil Ah) fun x31=>Ag r_<|Aa.and 5 r_ r_ r_ (A8 (Ay Ah)<|A6 (Ax (t:=Ae) (u:=(T.int .i64)) Ah r_ r_ Cj r_ r_) fun x32=>A8 (Ay Ah)<|A6 (Ax (t:=Ae) (u:=(T.int .i64)) Ah r_ r_ Cj r_ r_) fun x33=>AJ (AK r_ Ah Ah) fun x34=>AD.nil Ah) fun x35=>Ag r_<|Aa.and 5 r_ r_ r_ (A8 (Ay Ah)<|A6 (Ax (t:=Ae) (u:=T.b) Ah r_ r_ BP r_ r_) fun x36=>A8 (Ay Ah)<|A6 (Ax (t:=Ae) (u:=T.b) Ah r_ r_ BP r_ r_) fun x37=>AJ (I6 (neg:=false) Ah Ah) fun x38=>AD.nil Ah) fun x39=>Ag r_<|Aa.and 5 r_ r_ r_ (A8 (Ay Ah)<|A6 (Ax (t:=Ae) (u:=(T.sl An)) Ah r_ r_ BQ r_ r_) fun x40=>A8 (Ay Ah)<|A6 (Ax (t:=Ae) (u:=(T.sl An)) Ah r_ r_ BQ r_ r_) fun x41=>AD.op (AN IJ (.cons Ah<| .one Ah)) fun x42=>AD.nil Ah) fun x43=>Ag r_<|Af<|Aa.ret (.one (Bk r_))
theorem Mu:Spec tb Dj [Ae,Ae] [T.b] (fun a=>Fe a.1 a.2):=
 Spec.of NJ r_ r_ r_ Lz
noncomputable def KG(a0:Av)(a1:Av):Option Bool:=(Ek (!decide (a0.HasPrivate=a1.HasPrivate)) (let x6:= !(Dw (Ba 32 Bg.u8) a0.Private a1.Private);some x6)).bind fun x7=>(Ek x7 (some (!decide (a0.HasPort=a1.HasPort)))).bind fun x11=>(Ek x11 (some (!decide (a0.Port=a1.Port)))).bind fun x15=>(Ek x15 (some (!decide (a0.HasMark=a1.HasMark)))).bind fun x19=>(Ek x19 (let x22:= !decide ((a0.Mark.toNat:Int)=(a1.Mark.toNat:Int));some x22)).bind fun x23=>(Ek x23 (some (!decide (a0.Replace=a1.Replace)))).bind fun x27=>(Ek x27 (let x32:= !decide ((a0.Peers.l.length:Int)=(a1.Peers.l.length:Int));some x32)).bind fun x33=>if x33=true then some false else (iter (fun(s34:Int)=>if(decide (s34<(a0.Peers.l.length:Int)))=true then (Gg a0.Peers.l s34).bind fun x40=>(Gg a1.Peers.l s34).bind fun x43=>(Fe x40 x43).bind fun x45=>if(!x45)=true then (some false).map fun r=> .inr (.inr r) else some (.inl (IntKind.i64.wrap (s34+1))) else some (.inr (.inl ()))) 0).bind (Sum.elim (fun(p35:Unit)=>some true) some)
noncomputable def PS(a:CP [Ab,Ab]):D2 tb Io [Ab,Ab] [T.b] a:=Ai<|Au (B5 (t:=Ab) 2 r_ r_ Ah) fun _=>Au (B5 (t:=Ab) 3 r_ r_ Ah) fun _=>Al (AQ CM)<|At<|Ai<|Al (Ay Ah)<|Aq (Ax (t:=Ab) (u:=T.b) Ah r_ r_ BO r_ r_) fun x1=>Al (Ay Ah)<|Aq (Ax (t:=Ab) (u:=T.b) Ah r_ r_ BO r_ r_) fun x2=>Ap (I6 (neg:=true) Ah Ah) fun x3=>Ag r_<|Aa.or 5 r_ r_ r_ (A8 (Ay Ah)<|A6 (Ax (t:=Ab) (u:=(A1 32 T.u8)) Ah r_ r_ Df r_ r_) fun x4=>A8 (Ay Ah)<|A6 (Ax (t:=Ab) (u:=(A1 32 T.u8)) Ah r_ r_ Df r_ r_) fun x5=>AJ (Fy (Ba 32 Bg.u8) r_ r_ Ah Ah) fun x6=>AD.nil Ah) fun x7=>Ag r_<|Aa.or 5 r_ r_ r_ (A8 (Ay Ah)<|A6 (Ax (t:=Ab) (u:=T.b) Ah r_ r_ Ch r_ r_) fun x8=>A8 (Ay Ah)<|A6 (Ax (t:=Ab) (u:=T.b) Ah r_ r_ Ch r_ r_) fun x9=>AJ (I6 (neg:=true) Ah Ah) fun x10=>AD.nil Ah) fun x11=>Ag r_<|Aa.or 5 r_ r_ r_ (A8 (Ay Ah)<|A6 (Ax (t:=Ab) (u:=(T.int .i64)) Ah r_ r_ DU r_ r_) fun x12=>A8 (Ay Ah)<|A6 (Ax (t:=Ab) (u:=(T.int .i64)) Ah r_ r_ DU r_ r_) fun x13=>AJ (AK r_ Ah Ah) fun x14=>AD.nil Ah) fun x15=>Ag r_<|Aa.or 5 r_ r_ r_ (A8 (Ay Ah)<|A6 (Ax (t:=Ab) (u:=T.b) Ah r_ r_ Ci r_ r_) fun x16=>A8 (Ay Ah)<|A6 (Ax (t:=Ab) (u:=T.b) Ah r_ r_ Ci r_ r_) fun x17=>AJ (I6 (neg:=true) Ah Ah) fun x18=>AD.nil Ah) fun x19=>Ag r_<|Aa.or 5 r_ r_ r_ (A8 (Ay Ah)<|A6 (Ax (t:=Ab) (u:=T.u32) Ah r_ r_ DV r_ r_) fun x20=>A8 (Ay Ah)<|A6 (Ax (t:=Ab) (u:=T.u32) Ah r_ r_ DV r_ r_) fun x21=>AJ (NC (I:=IT.u32) r_ Ah Ah) fun x22=>AD.nil Ah) fun x23=>Ag r_<|Aa.or 5 r_ r_ r_ (A8 (Ay Ah)<|A6 (Ax (t:=Ab) (u:=T.b) Ah r_ r_ Cg r_ r_) fun x24=>A8 (Ay Ah)<|A6 (Ax (t:=Ab) (u:=T.b) Ah r_ r_ Cg r_ r_) fun x25=>
 AJ (I6 (neg:=true) Ah Ah) fun x26=>AD.nil Ah) fun x27=>Ag r_<|Aa.or 7 r_ r_ r_ (A8 (Ay Ah)<|A6 (Ax (t:=Ab) (u:=(T.sl Ae)) Ah r_ r_ B0 r_ r_) fun x28=>AJ (C4 Ah) fun x29=>A8 (Ay Ah)<|A6 (Ax (t:=Ab) (u:=(T.sl Ae)) Ah r_ r_ B0 r_ r_) fun x30=>AJ (C4 Ah) fun x31=>AJ (AK r_ Ah Ah) fun x32=>AD.nil Ah) fun x33=>Af<|Aa.cond Ah (Ai<|Al (AQ CM)<|Af<|Aa.ret (.one (Bk r_))) (Aa.skip<|At<|Ai<|Al (AQ BA)<|Af<|AE<|Aa.loop (id:=0) (σ:=Int) (τ:=Unit) (fun s34=>⟨[(2, .cp 2 0),(3, .cp 3 0),(5, .val (T.int .i64) s34)],[(2, .cells [(39, .val Ab a.1)]),(3, .cells [(39, .val Ab a.2)])]⟩) (fun p35=>⟨[],[]⟩) 0 sB (fun _=>r_) (fun s34=>Ai<|Ai<|Ag r_<|Al (Ay Ah)<|Aq (Ax (t:=Ab) (u:=(T.sl Ae)) Ah r_ r_ B0 r_ r_) fun x36=>Ap (C4 Ah) fun x37=>Ap (AK r_ Ah Ah) fun x38=>Af<|Aa.cond Ah (Aa.skip<|At<|AE<|Ai<|Al (Ay Ah)<|Aq (Ax (t:=Ab) (u:=(T.sl Ae)) Ah r_ r_ B0 r_ r_) fun x39=>Ag r_<|Aa.op (C0 r_ Ah Ah) fun x40=>Aq (DF r_ r_ Ah) fun x41=>Al (Ay Ah)<|Aq (Ax (t:=Ab) (u:=(T.sl Ae)) Ah r_ r_ B0 r_ r_) fun x42=>Ag r_<|Aa.op (C0 r_ Ah Ah) fun x43=>Aq (DF r_ r_ Ah) fun x44=>Aa.op (AN Mu (.cons Ah<| .one Ah)) fun x45=>Ap (BI Ah) fun x46=>Af<|Aa.cond Ah (Ai<|Al (AQ CM)<|Af<|Bq<|Aa.ret (.one (Bk r_))) (Aa.skip<|AR<|Af<|Ag r_<|Ap (BR (I:=(IT.int .i64)) Ah BA) fun x47=>Ag r_<|AY x47 sB)) (Bb<|B1 () sB)) (fun p35=>Bc<|At<|Al (AQ CM)<|Af<|Aa.ret (.one (Bk r_))))
theorem QO:Spec tb EU [Ab,Ab] [T.b] (fun a=>KG a.1 a.2):=
 Spec.of SZ r_ r_ r_ PS
noncomputable def Js(a0:Av):Option Bool:=(BS (!a0.HasPrivate) (some (!a0.HasPort))).bind fun x5=>(BS x5 (some (!a0.HasMark))).bind fun x8=>(BS x8 (some (!a0.Replace))).bind fun x11=>(BS x11 (some (decide ((a0.Peers.l.length:Int)=0)))).bind fun x15=>some x15
noncomputable def O3(a:CP [Ab]):D2 tb Hl [Ab] [T.b] a:=Ai<|Au (B5 (t:=Ab) 1 r_ r_ Ah) fun _=>Al (AQ CM)<|At<|Al (Ay Ah)<|Aq (Ax (t:=Ab) (u:=T.b) Ah r_ r_ BO r_ r_) fun x1=>Ap (BI Ah) fun x2=>Ag r_<|Aa.and 3 r_ r_ r_ (A8 (Ay Ah)<|A6 (Ax (t:=Ab) (u:=T.b) Ah r_ r_ Ch r_ r_) fun x3=>AJ (BI Ah) fun x4=>AD.nil Ah) fun x5=>Ag r_<|Aa.and 3 r_ r_ r_ (A8 (Ay Ah)<|A6 (Ax (t:=Ab) (u:=T.b) Ah r_ r_ Ci r_ r_) fun x6=>AJ (BI Ah) fun x7=>AD.nil Ah) fun x8=>Ag r_<|Aa.and 3 r_ r_ r_ (A8 (Ay Ah)<|A6 (Ax (t:=Ab) (u:=T.b) Ah r_ r_ Cg r_ r_) fun x9=>AJ (BI Ah) fun x10=>AD.nil Ah) fun x11=>Ag r_<|Aa.and 4 r_ r_ r_ (A8 (Ay Ah)<|A6 (Ax (t:=Ab) (u:=(T.sl Ae)) Ah r_ r_ B0 r_ r_) fun x12=>AJ (C4 Ah) fun x13=>AJ (AK r_ Ah BA) fun x14=>AD.nil Ah) fun x15=>Ag r_<|Af<|Aa.ret (.one (Bk r_))
theorem PH:Spec tb Ey [Ab] [T.b] (fun a=>Js a):=
 Spec.of RM r_ r_ r_ O3
noncomputable def FV(a0:AG)(a1:AG):Option Bool:=(HB a0).bind fun x2=>(Ek x2 ((HB a1).bind fun x4=>some x4)).bind fun x5=>if x5=true then (HH ()).bind fun x6=>some x6 else (DR a0 a1).bind fun x9=>(Jr a0 a1).bind fun x15=>(KG x9 x15).bind fun x16=>(Ek (!x16) ((Dn x9).bind fun x19=>(Js x9).bind fun x21=>some (!decide (x19=x21)))).bind fun x23=>if x23=true then some false else (F1 a0).bind fun x25=>(Ek (!x25) ((F1 a1).bind fun x28=>some (!x28))).bind fun x30=>(Ek x30 ((E7 a0 a1).bind fun x33=>(G0 a0 a1).bind fun x36=>(BS (decide (x33=x36)) ((DR a0 a0).bind fun x40=>(Dn x40).bind fun x41=>some x41)).bind fun x42=>some x42)).bind fun x43=>(BS x43 ((HH ()).bind fun x44=>some x44)).bind fun x45=>some x45
noncomputable def JG(a:CP [Ad,Ad]):D2 tb Ei [Ad,Ad] [T.b] a:=Ai<|Au (B5 (t:=Ad) 2 r_ r_ Ah) fun _=>Au (B5 (t:=Ad) 3 r_ r_ Ah) fun _=>Al (AQ CM)<|At<|Ai<|Aq (Ax (t:=Ad) (u:=Ad) Ah r_ r_ (A0 _) r_ r_) fun x1=>Aa.op (AN K1 (.one Ah)) fun x2=>Ag r_<|Aa.or 2 r_ r_ r_ (A6 (Ax (t:=Ad) (u:=Ad) Ah r_ r_ (A0 _) r_ r_) fun x3=>AD.op (AN K1 (.one Ah)) fun x4=>AD.nil Ah) fun x5=>Af<|Aa.cond Ah (Ai<|Aa.op (AN K3 (.nil)) fun x6=>Ag r_<|Af<|Aa.ret (.one (Bk r_))) (Aa.skip<|At<|Aq (Ax (t:=Ad) (u:=Ad) Ah r_ r_ (A0 _) r_ r_) fun x7=>Aq (Ax (t:=Ad) (u:=Ad) Ah r_ r_ (A0 _) r_ r_) fun x8=>Aa.op (AN FU (.cons Ah<| .one Ah)) fun x9=>Au (Bi (t:=Ab) 5 r_ r_) fun x10=>Au (Be Ah Ah r_ r_ (A0 _) r_) fun x11=>At<|Ai<|Aq (Ax (t:=Ab) (u:=Ab) Ah r_ r_ (A0 _) r_ r_) fun x12=>Aq (Ax (t:=Ad) (u:=Ad) Ah r_ r_ (A0 _) r_ r_) fun x13=>Aq (Ax (t:=Ad) (u:=Ad) Ah r_ r_ (A0 _) r_ r_) fun x14=>Aa.op (AN PG (.cons Ah<| .one Ah)) fun x15=>Aa.op (AN QO (.cons Ah<| .one Ah)) fun x16=>Ap (BI Ah) fun x17=>Ag r_<|Aa.or 5 r_ r_ r_ (A6 (Ax (t:=Ab) (u:=Ab) Ah r_ r_ (A0 _) r_ r_) fun x18=>AD.op (AN EF (.one Ah)) fun x19=>A6 (Ax (t:=Ab) (u:=Ab) Ah r_ r_ (A0 _) r_ r_) fun x20=>AD.op (AN PH (.one Ah)) fun x21=>AJ (I6 (neg:=true) Ah Ah) fun x22=>AD.nil Ah) fun x23=>Af<|Aa.cond Ah (Ai<|Al (AQ CM)<|Af<|Aa.ret (.one (Bk r_))) (Aa.skip<|At<|Aq (Ax (t:=Ad) (u:=Ad) Ah r_ r_ (A0 _) r_ r_) fun x24=>Aa.op (AN Gi (.one Ah)) fun x25=>Ap (BI Ah) fun x26=>Ag r_<|Aa.or 3 r_ r_ r_ (A6 (Ax (t:=Ad) (u:=Ad) Ah r_ r_ (A0 _) r_ r_) fun x27=>AD.op (AN Gi (.one Ah)) fun x28=>
 AJ (BI Ah) fun x29=>AD.nil Ah) fun x30=>Ag r_<|Aa.or 13 r_ r_ r_ (A6 (Ax (t:=Ad) (u:=Ad) Ah r_ r_ (A0 _) r_ r_) fun x31=>A6 (Ax (t:=Ad) (u:=Ad) Ah r_ r_ (A0 _) r_ r_) fun x32=>AD.op (AN I1 (.cons Ah<| .one Ah)) fun x33=>A6 (Ax (t:=Ad) (u:=Ad) Ah r_ r_ (A0 _) r_ r_) fun x34=>A6 (Ax (t:=Ad) (u:=Ad) Ah r_ r_ (A0 _) r_ r_) fun x35=>AD.op (AN K0 (.cons Ah<| .one Ah)) fun x36=>AJ (I6 (neg:=false) Ah Ah) fun x37=>A8 (AQ (IE r_))<|AD.and 4 r_ r_ r_ r_ r_ (A6 (Ax (t:=Ad) (u:=Ad) Ah r_ r_ (A0 _) r_ r_) fun x38=>A6 (Ax (t:=Ad) (u:=Ad) Ah r_ r_ (A0 _) r_ r_) fun x39=>AD.op (AN FU (.cons Ah<| .one Ah)) fun x40=>AD.op (AN EF (.one Ah)) fun x41=>AD.nil Ah) fun x42=>AD.nil Ah) fun x43=>Ag r_<|Aa.and 1 r_ r_ r_ (AD.op (AN K3 (.nil)) fun x44=>AD.nil Ah) fun x45=>Ag r_<|Af<|Aa.ret (.one (Bk r_))))
theorem Kb:Spec tb C9 [Ad,Ad] [T.b] (fun a=>FV a.1 a.2):=
 Spec.of KV r_ r_ r_ JG
end Go.Proofs.Ytapafbjgdfgodaa.Am
end

namespace Go.Proofs.Ytapafbjgdfgodaa.Am
theorem JM{x:Int}(h0: -9223372036854775808≤x)(h1:x<9223372036854775808):IntKind.i64.wrap x=x:=XI h0 h1
theorem KP{n k:Nat}(h:n<k):EM k (n:Int)=some n:=FQ h
theorem T7{β ρ:Type}{k n:Nat}{F:Int→Option (Int⊕(Unit⊕β))}{K:Unit⊕β→Option ρ}(q:Nat→Option β)(hk:k≤n)(hn:n<4611686018427387904)(h1: ∀i:Nat,k≤i→i<n→F (i:Int)=some (match q i with|none=> .inl (IntKind.i64.wrap ((i:Int)+1))|some b=> .inr (.inr b)))
  (h2:F (n:Int)=some (.inr (.inl ()))):(iter F (k:Int)).bind K=(match(List.range' k (n-k)).findSome? q with|none=>K (.inl ())|some b=>K (.inr b)):=by
 refine ES (fun s=>n-s.toNat) (fun s=> ∃i:Nat,s=i∧k≤i∧i≤n∧ ∀j,k≤j→j<i→q j=none)
  (fun r=>(r= .inl ()∧ ∀j,k≤j→j<n→q j=none)∨ ∃b,r= .inr b∧(List.range' k (n-k)).findSome? q=some b) ⟨k,rfl,Nat.le_refl _,hk,by omega⟩ ?_ ?_
 ·rintro s ⟨i,rfl,hki,hi,hq⟩
  rcases Nat.lt_or_ge i n with hlt|hge
  ·rw[h1 i hki hlt]
   cases e:q i with
   |none=>
    left
    refine⟨_,rfl,⟨i+1,?_,by omega,by omega,fun j hj1 hj=> ?_⟩,?_⟩
    ·rw[show(i:Int)+1=((i+1:Nat):Int) by omega,CL (by omega)]
    ·rcases Nat.lt_or_ge j i with h|h
     ·exact hq j hj1 h
     ·obtain rfl:j=i:=by omega
      exact e
    ·rw[show(i:Int)+1=((i+1:Nat):Int) by omega,CL (by omega)];omega
   |some b=>
    right
    refine⟨_,rfl, .inr ⟨b,rfl,?_⟩⟩
    have:List.range' k (n-k)=List.range' k (i-k)++i::List.range' (i+1) (n-(i+1)):=by
     rw[show n-k=(i-k)+(1+(n-(i+1))) by omega,←List.range'_append_1,←List.range'_append_1]
     simp only[List.range'_one,List.singleton_append,List.append_cancel_left_eq]
     rw[show k+(i-k)=i by omega]
    rw[this,List.findSome?_append,List.findSome?_eq_none_iff.2 (fun j hj=>by
     rw[List.mem_range'_1]at hj;exact hq j hj.1 (by omega))]
    simp[e]
  ·obtain rfl:i=n:=by omega
   right
   exact⟨_,h2, .inl ⟨rfl,hq⟩⟩
 ·rintro _ (⟨rfl,h⟩|⟨b,rfl,h⟩)
  ·rw[List.findSome?_eq_none_iff.2 (fun j hj=>by rw[List.mem_range'_1]at hj;exact h j hj.1 (by omega))]
  ·rw[h]
theorem X2(x y:A9):Dw De x y=decide (x=y):=
 if h:x=y then(Jk (t:=Ao) h).trans (decide_eq_true h).symm else(KY (t:=Ao) h).trans (decide_eq_false h).symm
theorem Sd(x y:AP):Dw Bh x y=decide (x=y):=
 if h:x=y then(Jk (t:=Az) h).trans (decide_eq_true h).symm else(KY (t:=Az) h).trans (decide_eq_false h).symm
theorem UC(x y:Aw):Dw BZ x y=decide (x=y):=
 if h:x=y then(Jk (t:=An) h).trans (decide_eq_true h).symm else(KY (t:=An) h).trans (decide_eq_false h).symm
def DJ(a:A9):Bool:=decide (a.V=6∨(a.V=4∧a.B.l.drop 4=List.replicate 12 0))
theorem VW(b0 b1 b2 b3:UInt8)(h:[b0,b1,b2,b3].length=4):HP ⟨[b0,b1,b2,b3],h⟩=some ⟨4,⟨[b0,b1,b2,b3,0,0,0,0,0,0,0,0,0,0,0,0],rfl⟩⟩:=by
 unfold HP
 rfl
theorem U5(b0 b1 b2 b3 b4 b5 b6 b7 b8 b9 b10 b11 b12 b13 b14 b15:UInt8)(h:(([b0,b1,b2,b3,b4,b5,b6,b7,b8,b9,b10,b11,b12,b13,b14,b15].drop 0).take 4).length=4):
  HP ⟨([b0,b1,b2,b3,b4,b5,b6,b7,b8,b9,b10,b11,b12,b13,b14,b15].drop 0).take 4,h⟩=some ⟨4,⟨[b0,b1,b2,b3,0,0,0,0,0,0,0,0,0,0,0,0],rfl⟩⟩:=VW b0 b1 b2 b3 rfl
theorem X3{p:A9→Prop}(h: ∀(V:Int) (b0 b1 b2 b3 b4 b5 b6 b7 b8 b9 b10 b11 b12 b13 b14 b15:UInt8),p ⟨V,⟨[b0,b1,b2,b3,b4,b5,b6,b7,b8,b9,b10,b11,b12,b13,b14,b15],rfl⟩⟩): ∀a,p a:=by
 rintro⟨V,⟨l,hl⟩⟩
 match l,hl with
 |[b0,b1,b2,b3,b4,b5,b6,b7,b8,b9,b10,b11,b12,b13,b14,b15],_=>exact h V b0 b1 b2 b3 b4 b5 b6 b7 b8 b9 b10 b11 b12 b13 b14 b15
theorem Iv(a:A9):EO a=some (DJ a):=by
 revert a
 refine X3 fun V b0 b1 b2 b3 b4 b5 b6 b7 b8 b9 b10 b11 b12 b13 b14 b15=> ?_
 unfold EO
 by_cases h6:V=6
 ·simp[h6,Ek,DJ]
 ·by_cases hv:V=4
  ·subst hv
   have e4:((4:Int)=6)=False:=by simp
   simp only[Ek,BS,e4,decide_false,Bool.false_eq_true,if_false,decide_true,if_true,U5,Option.bind_some,X2,DJ]
   congr 1
   simp[A9.mk.injEq,Ar.mk.injEq,List.replicate]
  ·simp[h6,hv,Ek,BS,DJ]
theorem Pu(B:Ar UInt8 16){i:Nat}(h:i<16): ∃b,B.l[i]? =some b:=⟨B.l[i]'(by rw[B.len];exact h),List.getElem?_eq_getElem _⟩
theorem Jv(a:A9):F2 a=some (DJ a):=by
 unfold F2
 by_cases h6:a.V=6
 ·simp[h6,DJ]
 ·rw[if_neg (by simpa using h6)]
  rw[show(4:Int)=((4:Nat):Int)from rfl,T7 (n:=16) (fun i=>if a.B.l[i]? =some 0 then none else some false) (by decide) (by decide)]
  ·cases e:(List.range' 4 (16-4)).findSome? (fun i=>if a.B.l[i]? =some 0 then none else some false)with
   |none=>
    simp only[Sum.elim_inl]
    have hz:a.B.l.drop 4=List.replicate 12 0:=by
     apply List.ext_getElem?
     intro i
     rw[List.getElem?_drop]
     rcases Nat.lt_or_ge i 12 with hi|hi
     ·have:=List.findSome?_eq_none_iff.1 e (4+i) (by rw[List.mem_range'_1];omega)
      rw[List.getElem?_replicate,if_pos hi]
      by_cases h:a.B.l[4+i]? =some 0
      ·exact h
      ·simp[h]at this
     ·rw[List.getElem?_eq_none (by rw[a.B.len];omega),List.getElem?_eq_none (by simp;omega)]
    simp[DJ,h6,hz]
   |some b=>
    obtain⟨i,hi,h'⟩:=List.exists_of_findSome?_eq_some e
    rw[List.mem_range'_1]at hi
    have hb:b=false:=by split at h'<;>simp_all
    subst hb
    simp only[Sum.elim_inr]
    have: ¬a.B.l.drop 4=List.replicate 12 0:=fun hz=>by
     have h:=congrArg (fun l=>l[i-4]?) hz
     simp only[List.getElem?_drop,List.getElem?_replicate]at h
     rw[show 4+(i-4)=i by omega,if_pos (by omega)]at h
     rw[h]at h';simp at h'
    have hr:DJ a=false:=decide_eq_false (by
     rintro(h|⟨_,h⟩)
     ·exact h6 h
     ·exact this h)
    rw[hr]
  ·intro i h4 hi
   obtain⟨b,hb⟩:=Pu a.B hi
   rw[if_pos (by simp;omega),KP hi,Option.bind_some,hb]
   simp only[Option.bind_some,Option.some.injEq]
   have e0:((b.toNat:Int)=((0:UInt8).toNat:Int))↔b=0:=by
    constructor
    ·intro h;exact UInt8.toNat_inj.1 (by exact_mod_cast h)
    ·rintro rfl;rfl
   by_cases h:b=0
   ·simp[h]
   ·simp only[e0,h,decide_false,Bool.not_false,if_true,if_false];rfl
  ·rw[if_neg (by decide)]
def CQ(a:A9):Nat:=if DJ a=true then(if a.V=4 then 32 else 128)else 0
theorem Tp(a:A9):Iw a=some (CQ a:Int):=by
 unfold Iw CQ
 rw[Iv]
 cases DJ a with
 |false=>simp
 |true=>by_cases h:a.V=4<;>simp[h]
theorem Pd(a:A9):HE a=some (CQ a:Int):=by
 unfold HE CQ
 rw[Jv]
 cases DJ a with
 |false=>simp
 |true=>by_cases h:a.V=4<;>simp[h]
def IX(b:UInt8)(k:Nat):UInt8:=UInt8.ofNat (b.toNat/2^(8-k)*2^(8-k))
def I4(l:List UInt8)(n:Nat):List UInt8:=l.mapIdx fun i b=>IX b (min (n-8*i) 8)
theorem HF(l:List UInt8)(n:Nat):(I4 l n).length=l.length:=by simp[I4]
theorem HG(l:List UInt8)(n i:Nat):(I4 l n)[i]? =l[i]?.map fun b=>IX b (min (n-8*i) 8):=by simp[I4,List.getElem?_mapIdx]
def Zf(k:Nat):UInt8:=Rf (((255:UInt8).toNat:Int)*2^(min k 8))
def Z1(b k:Nat):UInt8:=Rf (Wp .and .u8 (b:Int) ((Zf k).toNat:Int))
theorem Ww: ∀(b:Fin 256) (k:Fin 9),Z1 b.1 (8-k.1)=IX (UInt8.ofNat b.1) k.1:=by decide+kernel
def Z2(x:UInt8)(n:Nat):UInt8:=Rf ((x.toNat:Int)+((Rf (n:Int)).toNat:Int))
theorem Uu: ∀(b:Fin 256) (r:Fin 8),IX (UInt8.ofNat b.1) (r.1+1)=(if b.1/2^(7-r.1)%2=1 then Z2 (IX (UInt8.ofNat b.1) r.1) (128/2^r.1)else IX (UInt8.ofNat b.1) r.1):=by decide+kernel
theorem Uv(b:UInt8):IX b 0=0:=by
 have:=b.toNat_lt
 unfold IX
 rw[show b.toNat/2^(8-0)=0 by rw[Nat.div_eq_of_lt];simpa using this];simp
theorem LY(b:UInt8):UInt8.ofNat b.toNat=b:=by simp
theorem ZB{m:Nat}(h:m<18446744073709551616):(Rg (m:Int)).toNat=m:=by
 unfold Rg
 rw[show((m:Int)%18446744073709551616).toNat=m by omega]
 simp[UInt64.toNat_ofNat,h]
theorem UM(a:A9)(n:Nat)(hn:n≤1000)(hr:DJ a=true):JB a (n:Int)=some ⟨a.V,⟨I4 a.B.l n,by rw[HF,a.B.len]⟩⟩:=by
 unfold JB
 simp only[Iv,hr,Option.bind_some,Bool.not_true,Bool.false_eq_true,if_false]
 refine ES (fun s=>16-s.1.toNat) (fun s=> ∃i:Nat,s.1=i∧i≤16∧s.2.V=a.V∧ ∀j:Nat,s.2.B.l[j]? =if j<i then(I4 a.B.l n)[j]? else a.B.l[j]?)
  (fun r=>r= .inl ⟨a.V,⟨I4 a.B.l n,by rw[HF,a.B.len]⟩⟩) ⟨0,rfl,by omega,rfl,fun j=>by simp⟩ ?_ ?_
 rotate_left
 ·rintro _ rfl;rfl
 ·rintro⟨s,⟨V,B⟩⟩ ⟨i,rfl,h1,h2,h3⟩
  dsimp only at h2 h3 ⊢
  subst h2
  by_cases hi:i<16
  ·left
   obtain⟨b,hb⟩:=Pu a.B hi
   have hBi:B.l[i]? =some b:=by rw[h3,if_neg (by omega)];exact hb
   rw[if_pos (by simp;omega)]
   have hw:IntKind.i64.wrap ((n:Int)-IntKind.i64.wrap (8*(i:Int)))=(n:Int)-8*(i:Int):=by rw[JM (x:=8*(i:Int)) (by omega) (by omega),JM (by omega) (by omega)]
   have hx:(if 8<(if(0:Int)>(n:Int)-8*(i:Int)then 0 else(n:Int)-8*(i:Int))then 8 else(if(0:Int)>(n:Int)-8*(i:Int)then 0 else(n:Int)-8*(i:Int)))=((min (n-8*i) 8:Nat):Int):=by
    split<;>split<;>omega
   have hk:min (n-8*i) 8<9:=by omega
   have h8:IntKind.i64.wrap (8-((min (n-8*i) 8:Nat):Int))=((8-min (n-8*i) 8:Nat):Int):=by rw[JM (by omega) (by omega)];omega
   have h9:(Rg (((8-min (n-8*i) 8:Nat):Int))).toNat=8-min (n-8*i) 8:=ZB (by omega)
   have hm:=Ww ⟨b.toNat,b.toNat_lt⟩ ⟨min (n-8*i) 8,hk⟩
   simp only[Z1,Zf,LY]at hm
   simp only[hw,hx]
   rw[if_neg (show¬decide ((n:Int)<0)=true by simp)]
   simp only[Option.bind_some,Sum.elim_inl,KP hi,hBi,h8,h9]
   rw[if_neg (by omega)]
   simp only[Option.bind_some,Int.toNat_natCast,if_pos hi]
   refine⟨_,rfl,⟨i+1,by dsimp only;rw[JM (by omega) (by omega)];omega,by omega,rfl,fun j=> ?_⟩,by dsimp only;rw[JM (by omega) (by omega)];omega⟩
   dsimp only[Ar.set]
   rw[List.getElem?_set]
   by_cases hj:i=j
   ·subst hj
    rw[if_pos rfl,if_pos (by rw[B.len];exact hi),if_pos (by omega),HG,hb,Option.map_some]
    exact congrArg some hm
   ·rw[if_neg hj,h3]
    by_cases hji:j<i
    ·rw[if_pos hji,if_pos (by omega)]
    ·rw[if_neg hji,if_neg (by omega)]
  ·obtain rfl:i=16:=by omega
   right
   rw[if_neg (by simp)]
   refine⟨_,rfl,?_⟩
   congr 2
   apply Ar.ext
   apply List.ext_getElem?
   intro j
   dsimp only
   rw[h3]
   by_cases hj:j<16
   ·rw[if_pos hj]
   ·rw[if_neg hj,List.getElem?_eq_none (by rw[a.B.len];omega),List.getElem?_eq_none (by rw[HF,a.B.len];omega)]
theorem ZM{i:Nat}(h:i<1000):(if(8:Nat)=0 then none else some (IntKind.i64.wrap (Int.tdiv (i:Int) 8)))=some ((i/8:Nat):Int):=by
 rw[if_neg (by decide),show(8:Int)=((8:Nat):Int)from rfl,←Int.ofNat_tdiv,CL (by omega)]
theorem ZL{i:Nat}:(if(8:Nat)=0 then none else some (Int.tmod (i:Int) 8))=some ((i%8:Nat):Int):=by
 rw[if_neg (by decide),show(8:Int)=((8:Nat):Int)from rfl,←Int.ofNat_tmod]
theorem ZN{i:Nat}(h:i<1000):(if(2:Nat)=0 then none else some (IntKind.i64.wrap (Int.tdiv (i:Int) 2)))=some ((i/2:Nat):Int):=by
 rw[if_neg (by decide),show(2:Int)=((2:Nat):Int)from rfl,←Int.ofNat_tdiv,CL (by omega)]
theorem ZT{i:Nat}:(if(2:Nat)=0 then none else some (Int.tmod (i:Int) 2))=some ((i%2:Nat):Int):=by
 rw[if_neg (by decide),show(2:Int)=((2:Nat):Int)from rfl,←Int.ofNat_tmod]
theorem OG(a:A9)(i:Nat)(hi:i<128)(b:UInt8)(hb:a.B.l[i/8]? =some b):Jw a (i:Int)=some ((b.toNat/2^(7-i%8)%2:Nat):Int):=by
 have hbl:=b.toNat_lt
 unfold Jw
 rw[ZM (by omega)]
 simp only[Option.bind_some,KP (show i/8<16 by omega),hb]
 refine ES (fun s=>s.2.toNat) (fun s=> ∃m:Nat,m≤7-i%8∧s.1=((b.toNat/2^m:Nat):Int)∧s.2=((7-m:Nat):Int)) (fun r=>r= .inl ((b.toNat/2^(7-i%8):Nat):Int)) ⟨0,by omega,by rw[CL (by omega)];simp,rfl⟩ ?_ ?_
 ·rintro⟨s,k⟩ ⟨m,h1,h2,h3⟩
  dsimp only at h2 h3 ⊢
  subst h2 h3
  have hle:b.toNat/2^m≤b.toNat:=Nat.div_le_self _ _
  rw[ZL]
  simp only[Option.bind_some]
  by_cases hm:m<7-i%8
  ·left
   rw[if_pos (by rw[decide_eq_true_eq];omega),ZN (by omega)]
   simp only[Option.bind_some]
   refine⟨_,rfl,⟨m+1,by omega,?_,?_⟩,?_⟩
   ·dsimp only;rw[Nat.div_div_eq_div_mul,←Nat.pow_succ]
   ·dsimp only;rw[JM (by omega) (by omega)];omega
   ·dsimp only;rw[JM (by omega) (by omega)];omega
  ·right
   obtain rfl:m=7-i%8:=by omega
   rw[if_neg (by rw[decide_eq_true_eq];omega)]
   exact⟨_,rfl,rfl⟩
 ·rintro _ rfl
  simp only[Sum.elim_inl,ZT,Option.bind_some]
theorem Xc{β γ:Type}{r:Nat}(hr:r<8){K:(Int⊕β)→Option γ}{F:Int×Int→Option ((Int×Int)⊕(Int⊕β))}(hF: ∀m k:Nat,m<1000→k≤8→F ((m:Int),(k:Int))=if k<r then some (.inl (((m/2:Nat):Int),((k+1:Nat):Int)))else some (.inr (.inl (m:Int)))):
  (iter F (128,0)).bind K=K (.inl ((128/2^r:Nat):Int)):=by
 refine ES (fun s=>8-s.2.toNat) (fun s=> ∃k:Nat,k≤r∧s.1=((128/2^k:Nat):Int)∧s.2=(k:Int)) (fun q=>q= .inl ((128/2^r:Nat):Int)) ⟨0,by omega,rfl,rfl⟩ ?_ ?_
 ·rintro⟨s,k⟩ ⟨m,h1,h2,h3⟩
  dsimp only at h2 h3 ⊢
  subst h2 h3
  have hle:128/2^m≤128:=Nat.div_le_self _ _
  rw[hF _ _ (by omega) (by omega)]
  by_cases hm:m<r
  ·left
   rw[if_pos hm]
   refine⟨_,rfl,⟨m+1,by omega,?_,rfl⟩,by dsimp only;omega⟩
   dsimp only;rw[Nat.div_div_eq_div_mul,←Nat.pow_succ]
  ·right
   obtain rfl:m=r:=by omega
   rw[if_neg (by omega)]
   exact⟨_,rfl,rfl⟩
 ·rintro _ rfl;rfl
theorem Vh(a:A9)(n:Nat)(hn:n≤CQ a)(hr:DJ a=true):KH a (n:Int)=some ⟨a.V,⟨I4 a.B.l n,by rw[HF,a.B.len]⟩⟩:=by
 have hw:CQ a≤128:=by unfold CQ;split<;>(try split)<;>omega
 unfold KH
 simp only[Jv,Pd,hr,Option.bind_some,Bool.not_true,Bool.false_eq_true,if_false]
 refine ES (fun s=>128-s.1.toNat) (fun s=> ∃i:Nat,s.1=i∧i≤n∧s.2.V=a.V∧s.2.B.l=I4 a.B.l i)
  (fun r=>r= .inl ⟨a.V,⟨I4 a.B.l n,by rw[HF,a.B.len]⟩⟩) ⟨0,rfl,by omega,rfl,?_⟩ ?_ ?_
 ·apply List.ext_getElem?
  intro j
  rw[HG]
  show(List.replicate 16 (0:UInt8))[j]? =_
  rw[List.getElem?_replicate]
  by_cases hj:j<16
  ·obtain⟨b,hb⟩:=Pu a.B hj
   rw[if_pos hj,hb,Option.map_some,show min (0-8*j) 8=0 by omega,Uv]
  ·rw[if_neg hj,List.getElem?_eq_none (by rw[a.B.len];omega)];rfl
 ·rintro⟨s,⟨V,B⟩⟩ ⟨i,rfl,h1,h2,h3⟩
  dsimp only at h2 h3 ⊢
  subst h2
  by_cases hi:i<n
  ·left
   obtain⟨b,hb⟩:=Pu a.B (show i/8<16 by omega)
   have ht:BS (decide ((i:Int)<(CQ a:Int))) (some (decide ((i:Int)<(n:Int))))=some true:=by
    rw[decide_eq_true (by omega),decide_eq_true (by omega)];rfl
   have hBb:B.l[i/8]? =some (IX b (i%8)):=by
    rw[h3,HG,hb,Option.map_some,show min (i-8*(i/8)) 8=i%8 by omega]
   have hstep:=Uu ⟨b.toNat,b.toNat_lt⟩ ⟨i%8,by omega⟩
   simp only[Z2,LY]at hstep
   have hnext: ∀(c:UInt8),c=IX b (i%8+1)→B.l.set (i/8) c=I4 a.B.l (i+1):=by
    rintro c rfl
    apply List.ext_getElem?
    intro j
    rw[List.getElem?_set,HG]
    by_cases hj:i/8=j
    ·subst hj
     rw[if_pos rfl,if_pos (by rw[B.len];omega),hb,Option.map_some,show min (i+1-8*(i/8)) 8=i%8+1 by omega]
    ·rw[if_neg hj,h3,HG,show min (i+1-8*j) 8=min (i-8*j) 8 by omega]
   have hwi:IntKind.i64.wrap ((i:Int)+1)=((i+1:Nat):Int):=by rw[JM (by omega) (by omega)];omega
   simp only[ht,Option.bind_some,if_true,OG a i (by omega) b hb]
   by_cases hd:b.toNat/2^(7-i%8)%2=1
   ·rw[if_pos hd]at hstep
    rw[if_pos (by rw[decide_eq_true_eq];omega)]
    rw[Xc (r:=i%8) (by omega) (fun m k hm hk=>by
     rw[ZL]
     simp only[Option.bind_some]
     by_cases hkr:k<i%8
     ·rw[if_pos (by rw[decide_eq_true_eq];omega),if_pos hkr,ZN (by omega)]
      simp only[Option.bind_some]
      rw[JM (by omega) (by omega)];rfl
     ·rw[if_neg (by rw[decide_eq_true_eq];omega),if_neg hkr])]
    simp only[Sum.elim_inl,ZM (show i<1000 by omega),Option.bind_some,KP (show i/8<16 by omega),hBb,if_pos (show i/8<16 by omega),hwi]
    refine⟨_,rfl,⟨i+1,rfl,by omega,rfl,?_⟩,by dsimp only;omega⟩
    exact hnext _ hstep.symm
   ·rw[if_neg hd]at hstep
    rw[if_neg (by rw[decide_eq_true_eq];omega),hwi]
    refine⟨_,rfl,⟨i+1,rfl,by omega,rfl,?_⟩,by dsimp only;omega⟩
    dsimp only
    rw[←hnext (IX b (i%8)) hstep.symm]
    exact(List.ext_getElem? fun j=>by
     rw[List.getElem?_set]
     by_cases hj:i/8=j
     ·subst hj;rw[if_pos rfl,if_pos (by rw[B.len];omega),hBb]
     ·rw[if_neg hj])
  ·obtain rfl:i=n:=by omega
   right
   have ht:BS (decide ((i:Int)<(CQ a:Int))) (some (decide ((i:Int)<(i:Int))))=some false:=by
    rw[decide_eq_false (show¬(i:Int)<(i:Int) by omega)]
    cases decide ((i:Int)<(CQ a:Int))<;>rfl
   simp only[ht,Option.bind_some,Bool.false_eq_true,if_false]
   refine⟨_,rfl,?_⟩
   congr 2
   exact Ar.ext h3
 ·rintro _ rfl;rfl
def Kh(p:Aw):Bool:=DJ p.A&&(decide (0≤p.Bits∧p.Bits≤(CQ p.A:Int))&&decide (I4 p.A.B.l p.Bits.toNat=p.A.B.l))
theorem QK(a:A9):CQ a≤128:=by unfold CQ;split<;>(try split)<;>omega
theorem NS(p:Aw):GM p=some (Kh p):=by
 obtain⟨a,n⟩:=p
 have hw:=QK a
 unfold GM Q6
 simp only[Iv,Tp,Option.bind_some,Kh]
 cases hr:DJ a with
 |false=>simp[BS]
 |true=>
  simp only[Bool.not_true,Bool.false_eq_true,if_false,Bool.true_and]
  by_cases h0:n<0
  ·have:Ek (decide (n<0)) (some (decide ((CQ a:Int)<n)))=some true:=by rw[decide_eq_true h0];rfl
   have hf:decide (0≤n∧n≤(CQ a:Int))=false:=decide_eq_false (by omega)
   simp[this,hf,BS]
  ·by_cases h1:(CQ a:Int)<n
   ·have:Ek (decide (n<0)) (some (decide ((CQ a:Int)<n)))=some true:=by rw[decide_eq_false h0,decide_eq_true h1];rfl
    have hf:decide (0≤n∧n≤(CQ a:Int))=false:=decide_eq_false (by omega)
    simp[this,hf,BS]
   ·have:Ek (decide (n<0)) (some (decide ((CQ a:Int)<n)))=some false:=by rw[decide_eq_false h0,decide_eq_false h1];rfl
    have hf:decide (0≤n∧n≤(CQ a:Int))=true:=decide_eq_true (by omega)
    obtain⟨m,rfl⟩: ∃m:Nat,n=m:=⟨n.toNat,by omega⟩
    simp only[this,hf,Option.bind_some,Bool.false_eq_true,if_false,UM a m (by omega) hr,decide_true,BS,if_true,UC,Bool.true_and,Int.toNat_natCast]
    congr 1
    rw[decide_eq_decide]
    constructor
    ·intro e
     have:=congrArg (fun x:Aw=>x.A.B.l) e
     exact this
    ·intro e
     obtain⟨V,B⟩:=a
     congr 2
     exact Ar.ext e
theorem Ju(p:Aw):G1 p=some (Kh p):=by
 obtain⟨a,n⟩:=p
 have hw:=QK a
 unfold G1
 simp only[Jv,Pd,Option.bind_some,Kh]
 cases hr:DJ a with
 |false=>simp[Ek]
 |true=>
  simp only[Bool.not_true,Bool.true_and]
  by_cases h0:n<0
  ·have hf:decide (0≤n∧n≤(CQ a:Int))=false:=decide_eq_false (by omega)
   simp[Ek,hf,h0]
  ·by_cases h1:(CQ a:Int)<n
   ·have hf:decide (0≤n∧n≤(CQ a:Int))=false:=decide_eq_false (by omega)
    simp[Ek,hf,h0,h1]
   ·have hf:decide (0≤n∧n≤(CQ a:Int))=true:=decide_eq_true (by omega)
    obtain⟨m,rfl⟩: ∃m:Nat,n=m:=⟨n.toNat,by omega⟩
    simp only[Ek,Bool.false_eq_true,if_false,Option.bind_some,decide_eq_false h0,decide_eq_false h1,hf,Vh a m (by omega) hr,X2,Bool.true_and,Int.toNat_natCast]
    congr 1
    rw[decide_eq_decide]
    constructor
    ·intro e
     exact(congrArg (fun x:A9=>x.B.l) e).symm
    ·intro e
     obtain⟨V,B⟩:=a
     congr 1
     exact(Ar.ext e).symm
def JU(a b:List UInt8)(i:Nat):Option Bool:=if a[i]? =b[i]? then none else some (decide (((a[i]?).getD 0).toNat<((b[i]?).getD 0).toNat))
def TE(a b:List UInt8):Bool:=((List.range' 0 16).findSome? (JU a b)).getD false
def Rm(a b:A9):Bool:=if a.V=b.V then TE a.B.l b.B.l else decide (a.V<b.V)
theorem Pw{p:Nat→Bool}{q:Nat→Option Bool}: ∀{l:List Nat},(∀i∈l,(q i).isSome=p i)→l.findSome? q=(l.find? p).bind q
 |[],_=>rfl
 |x::l,h=>by
  have hx:=h x (by simp)
  rw[List.findSome?_cons,List.find?_cons]
  cases hq:q x with
  |none=>rw[hq]at hx;simp only[Option.isSome_none]at hx;rw[←hx];exact Pw fun i hi=>h i (by simp[hi])
  |some b=>rw[hq]at hx;simp only[Option.isSome_some]at hx;rw[←hx];simp[hq]
theorem Wl(a b:List UInt8)(ha:a.length=16)(hb:b.length=16):decide (NQ a b<0)=TE a b:=by
 unfold NQ Extern.BytealgCompare.cmp TE
 have hga: ∀i,i<16→(⟨a.toArray⟩:ByteArray)[i]! =(a[i]?).getD 0:=fun i hi=>by
  rw[getElem!_pos (⟨a.toArray⟩:ByteArray) i (by show i<a.toArray.size;simp[ha,hi]),List.getElem?_eq_getElem (show i<a.length by omega)]
  rfl
 have hgb: ∀i,i<16→(⟨b.toArray⟩:ByteArray)[i]! =(b[i]?).getD 0:=fun i hi=>by
  rw[getElem!_pos (⟨b.toArray⟩:ByteArray) i (by show i<b.toArray.size;simp[hb,hi]),List.getElem?_eq_getElem (show i<b.length by omega)]
  rfl
 have hsa:(⟨a.toArray⟩:ByteArray).size=16:=by simp[ByteArray.size,ha]
 have hsb:(⟨b.toArray⟩:ByteArray).size=16:=by simp[ByteArray.size,hb]
 rw[hsa,hsb,List.range_eq_range']
 have hfs:(List.range' 0 16).findSome? (JU a b)=((List.range' 0 16).find? fun i=>(⟨a.toArray⟩:ByteArray)[i]! != (⟨b.toArray⟩:ByteArray)[i]!).bind (JU a b):=by
  refine Pw fun i hi=> ?_
  rw[List.mem_range'_1]at hi
  rw[hga i (by omega),hgb i (by omega)]
  rw[List.getElem?_eq_getElem (show i<a.length by omega),List.getElem?_eq_getElem (show i<b.length by omega)]
  unfold JU
  rw[List.getElem?_eq_getElem (show i<a.length by omega),List.getElem?_eq_getElem (show i<b.length by omega)]
  by_cases e:a[i]=b[i]<;>simp[e]
 rw[hfs]
 simp only[Nat.min_self]
 cases e:(List.range' 0 16).find? fun i=>(⟨a.toArray⟩:ByteArray)[i]! != (⟨b.toArray⟩:ByteArray)[i]! with
 |none=>simp
 |some i=>
  have hi:=List.mem_of_find?_eq_some e
  rw[List.mem_range'_1]at hi
  have hne:=List.find?_some e
  rw[hga i (by omega),hgb i (by omega)]at hne
  have hq:JU a b i=some (decide (((a[i]?).getD 0).toNat<((b[i]?).getD 0).toNat)):=by
   unfold JU
   rw[if_neg]
   intro h
   rw[h]at hne
   simp at hne
  simp only[Option.bind_some,hq,Option.getD_some,hga i (by omega),hgb i (by omega)]
  by_cases h:(a[i]?).getD 0<(b[i]?).getD 0
  ·rw[if_pos h];simp[UInt8.lt_iff_toNat_lt.1 h]
  ·rw[if_neg h]
   have: ¬((a[i]?).getD 0).toNat<((b[i]?).getD 0).toNat:=fun g=>h (UInt8.lt_iff_toNat_lt.2 g)
   simp[this]
theorem UN(a b:A9):JC a b=some (Rm a b):=by
 unfold JC Rm
 by_cases h:a.V=b.V
 ·have h1:(a.B.l.drop 0).take 16=a.B.l:=List.take_of_length_le (by rw[List.drop_zero,a.B.len];exact Nat.le_refl _)
  have h2:(b.B.l.drop 0).take 16=b.B.l:=List.take_of_length_le (by rw[List.drop_zero,b.B.len];exact Nat.le_refl _)
  have hb:FL (.mk a.B.l) (.mk b.B.l)=some (NQ a.B.l b.B.l):=by simp only[FL,Dq,Option.bind_some,XF]
  rw[h1,h2,hb]
  simp only[h,decide_true,Bool.not_true,Bool.false_eq_true,if_false,if_true,Nat.zero_add,Nat.le_refl,and_self,Option.bind_some]
  exact congrArg some (Wl _ _ a.B.len b.B.len)
 ·simp[h]
theorem Vi(a b:A9):KI a b=some (Rm a b):=by
 unfold KI Rm
 by_cases h:a.V=b.V
 ·simp only[h,decide_true,Bool.not_true,Bool.false_eq_true,if_false,if_true]
  rw[show(0:Int)=((0:Nat):Int)from rfl,T7 (n:=16) (JU a.B.l b.B.l) (by decide) (by decide)]
  ·unfold TE
   cases (List.range' 0 (16-0)).findSome? (JU a.B.l b.B.l)<;>rfl
  ·intro i _ hi
   obtain⟨x,hx⟩:=Pu a.B hi
   obtain⟨y,hy⟩:=Pu b.B hi
   rw[if_pos (by simp;omega)]
   have hq:JU a.B.l b.B.l i=if x=y then none else some (decide (x.toNat<y.toNat)):=by
    unfold JU;rw[hx,hy];simp
   simp only[KP hi,Option.bind_some,hx,hy,hq]
   have e0:((x.toNat:Int)=(y.toNat:Int))↔x=y:=⟨fun h=>UInt8.toNat_inj.1 (by exact_mod_cast h),fun h=>by rw[h]⟩
   by_cases e:x=y
   ·simp[e]
   ·have e1:decide ((x.toNat:Int)<(y.toNat:Int))=decide (x.toNat<y.toNat):=by rw[decide_eq_decide];omega
    simp only[e0,e,decide_false,Bool.not_false,if_true,if_false,e1];rfl
  ·rw[if_neg (by simp)]
 ·simp[h]
def Mc(p q:Aw):Bool:=if p.A=q.A then decide (p.Bits<q.Bits)else Rm p.A q.A
theorem UE(p q:Aw):HM p q=some (Mc p q):=by
 unfold HM Mc
 by_cases h:p.A=q.A<;>simp[X2,h,UN]
theorem QX(p q:Aw):HD p q=some (Mc p q):=by
 unfold HD Mc
 by_cases h:p.A=q.A<;>simp[X2,h,Vi]
def HZ(e:AP):Bool:=DJ e.A&&(decide (1≤e.Port)&&decide (e.Port≤65535))
theorem SW(e:AP):D5 e=some (HZ e):=by
 unfold D5 HZ
 rw[Iv]
 cases DJ e.A<;>by_cases h1:1≤e.Port<;>simp[BS,h1]
theorem Ui(e:AP):HC e=some (HZ e):=by
 unfold HC HZ
 rw[Jv]
 cases DJ e.A<;>by_cases h1:1≤e.Port<;>simp[BS,h1]
theorem J0(e:AP):CC e=some (decide (e=⟨Ao.z,0⟩)):=by
 unfold CC;rw[Sd]
end Go.Proofs.Ytapafbjgdfgodaa.Am
namespace Go.Proofs.Ytapafbjgdfgodaa.Am
end Go.Proofs.Ytapafbjgdfgodaa.Am
namespace Go.Proofs.Ytapafbjgdfgodaa.Am
def blk(c:UInt8):Bool:=c==32||c==9||c==13
end Go.Proofs.Ytapafbjgdfgodaa.Am
namespace Go.Proofs.Ytapafbjgdfgodaa.Am
end Go.Proofs.Ytapafbjgdfgodaa.Am
namespace Go.Proofs.Ytapafbjgdfgodaa.Am
end Go.Proofs.Ytapafbjgdfgodaa.Am
namespace Go.Proofs.Ytapafbjgdfgodaa.Am
end Go.Proofs.Ytapafbjgdfgodaa.Am
namespace Go.Proofs.Ytapafbjgdfgodaa.Am
end Go.Proofs.Ytapafbjgdfgodaa.Am
namespace Go.Proofs.Ytapafbjgdfgodaa.Am
end Go.Proofs.Ytapafbjgdfgodaa.Am
namespace Go.Proofs.Ytapafbjgdfgodaa.Am
def JW{α:Type}:List α→GS α
 |[]=> .nil
 |x::l=> .mk (x::l)
theorem KR{α:Type}: ∀l:List α,(JW l).l=l
 |[]=>rfl
 |_::_=>rfl
theorem ND{α:Type}: ∀(l:List α) (x:α),JW (l++[x])= .mk (l++[x])
 |[],_=>rfl
 |_::_,_=>rfl
end Go.Proofs.Ytapafbjgdfgodaa.Am
namespace Go.Proofs.Ytapafbjgdfgodaa.Am
open Classical
theorem MC(x y:Ar UInt8 32):Dw (Ba 32 Bg.u8) x y=decide (x=y):=
 if h:x=y then(Jk (t:=A1 32 T.u8) h).trans (decide_eq_true h).symm else(KY (t:=A1 32 T.u8) h).trans (decide_eq_false h).symm
theorem Wa(x y:Ar UInt8 32):Br x y=true↔x=y:=by
 unfold Br;rw[MC,decide_eq_true_iff]
theorem YN(x y:Aw):Ed x y=true↔x=y:=by
 unfold Ed;simp only[UC,decide_eq_true_iff]
def tm{κ:Type}(l:List κ):List (κ×Bool):=l.map fun k=>(k,true)
theorem Qm{κ:Type}{e:κ→κ→Bool}(he: ∀x y,e x y=true↔x=y){k:κ}: ∀{l:List κ},k∈l→(Fb e (tm l) k).getD false=true
 |x::l,hm=>by
  simp only[tm,List.map_cons,Fb]
  by_cases h:k=x
  ·rw[(he k x).2 h];rfl
  ·have:e k x=false:=by simpa using fun g=>h ((he k x).1 g)
   rw[this,cond_false]
   exact Qm he ((List.mem_cons.1 hm).resolve_left h)
theorem Nu{κ:Type}{e:κ→κ→Bool}(he: ∀x y,e x y=true↔x=y){k:κ}: ∀{l:List κ},k∉l→(Fb e (tm l) k).getD false=false
 |[],_=>rfl
 |x::l,hm=>by
  simp only[tm,List.map_cons,Fb]
  have h: ¬k=x:=fun e=>hm (by simp[e])
  have:e k x=false:=by simpa using fun g=>h ((he k x).1 g)
  rw[this,cond_false]
  exact Nu he fun g=>hm (by simp[g])
theorem Ql{κ:Type}{e:κ→κ→Bool}(he: ∀x y,e x y=true↔x=y){k:κ}: ∀{l:List κ},k∉l→H3 e (tm l) k true=tm (l++[k])
 |[],_=>rfl
 |x::l,hm=>by
  simp only[tm,List.map_cons,List.cons_append,H3]
  have h: ¬k=x:=fun e=>hm (by simp[e])
  have:e k x=false:=by simpa using fun g=>h ((he k x).1 g)
  rw[this,cond_false]
  exact congrArg (fun r=>(x,true)::r) (Ql he fun g=>hm (by simp[g]))
theorem XZ{κ:Type}(l:List κ):(tm l).length=l.length:=by simp[tm]
def JH(l:List Aw)(i:Nat):Prop:= ∃p,l[i]? =some p∧Kh p=true∧(0<i→ ∃q,l[i-1]? =some q∧Mc q p=true)
def Kg(l:List Aw):Prop:= ∀i,i<l.length→JH l i
theorem L6{l:List Aw}{i:Nat}(hi:i<l.length)(hl:l.length<4611686018427387904){f:Aw→Option Bool}{g:Aw→Aw→Option Bool}(hf: ∀p,f p=some (Kh p))(hg: ∀p q,g p q=some (Mc p q)):
  ((f l[i]).bind fun x10=>(Ek (!x10) ((BS (decide (0<(i:Int))) ((Gg l (IntKind.i64.wrap ((i:Int)-1))).bind fun x14=>(g x14 l[i]).bind fun x17=>some (!x17))).bind fun x19=>some x19)))=some (!decide (JH l i)):=by
 rw[hf]
 simp only[Option.bind_some]
 cases hr:Kh l[i]with
 |false=>
  have: ¬JH l i:=by
   rintro⟨p,hp,h,_⟩
   rw[List.getElem?_eq_getElem hi]at hp
   cases hp
   rw[hr]at h;cases h
  simp[Ek,this]
 |true=>
  simp only[Bool.not_true,Ek,Bool.false_eq_true,if_false]
  by_cases h0:0<i
  ·have hw:IntKind.i64.wrap ((i:Int)-1)=((i-1:Nat):Int):=by rw[JM (by omega) (by omega)];omega
   rw[decide_eq_true (show(0:Int)<(i:Int) by omega),hw,BG,List.getElem?_eq_getElem (show i-1<l.length by omega)]
   simp only[BS,if_true,Option.bind_some,hg]
   congr 1
   have:JH l i↔Mc l[i-1] l[i]=true:=by
    constructor
    ·rintro⟨p,hp,_,h⟩
     rw[List.getElem?_eq_getElem hi]at hp;cases hp
     obtain⟨q,hq,h⟩:=h h0
     rw[List.getElem?_eq_getElem (show i-1<l.length by omega)]at hq;cases hq
     exact h
    ·intro h
     exact⟨_,List.getElem?_eq_getElem hi,hr,fun _=>⟨_,List.getElem?_eq_getElem (show i-1<l.length by omega),h⟩⟩
   by_cases h:JH l i
   ·rw[this.1 h];simp[h]
   ·have h':Mc l[i-1] l[i]=false:=by simpa using fun g=>h (this.2 g)
    rw[h'];simp[h]
  ·have:JH l i:=⟨_,List.getElem?_eq_getElem hi,hr,fun g=>absurd g h0⟩
   rw[decide_eq_false (show¬(0:Int)<(i:Int) by omega)]
   simp[BS,this]
theorem S2(g:GS Aw)(hl:g.l.length<4611686018427387904):Ha g=some (decide (Kg g.l)):=by
 unfold Ha
 refine(T7 (k:=0) (n:=g.l.length) (fun i=>if JH g.l i then none else some false) (by omega) hl ?_ ?_).trans ?_
 rotate_left 2
 ·cases e:(List.range' 0 (g.l.length-0)).findSome? (fun i=>if JH g.l i then none else some false)with
  |none=>
   simp only[Sum.elim_inl]
   have:Kg g.l:=fun i hi=>by
    have:=List.findSome?_eq_none_iff.1 e i (by rw[List.mem_range'_1];omega)
    by_cases h:JH g.l i
    ·exact h
    ·simp[h]at this
   rw[decide_eq_true this]
  |some b=>
   obtain⟨i,hi,h'⟩:=List.exists_of_findSome?_eq_some e
   rw[List.mem_range'_1]at hi
   by_cases h:JH g.l i
   ·simp[h]at h'
   ·simp only[h,if_false,Option.some.injEq]at h'
    subst h'
    have: ¬Kg g.l:=fun r=>h (r i (by omega))
    rw[decide_eq_false this];rfl
 ·intro i _ hi
  rw[if_pos (by simpa using hi),BG,List.getElem?_eq_getElem hi]
  have ht:=L6 hi hl (f:=GM) (g:=HM) NS UE
  simp only[Option.bind_some]
  rw[NS]at ht ⊢
  simp only[Option.bind_some]at ht ⊢
  rw[ht]
  by_cases h:JH g.l i<;>simp[h]
 ·rw[if_neg (by simp)]
def OU:Ar UInt8 32:=⟨[0,0,0,0,0,0,0,0,0,0,0,0,0,0,0,0,0,0,0,0,0,0,0,0,0,0,0,0,0,0,0,0],rfl⟩
def Lu:AP:=⟨Ao.z,0⟩
def JR(n:Int):Prop:=0≤n∧n≤65535
theorem Ud(n:Int):G9 n=some (decide (JR n)):=by
 unfold G9 JR
 by_cases h:0≤n<;>simp[BS,h]
theorem VV(n:Int):IM n=some (decide (JR n)):=by
 unfold IM JR
 by_cases h:0≤n<;>simp[BS,h]
def JS(e:AP):Prop:=e=Lu∨HZ e=true
def Qf(p:Aj):Prop:=JR p.Keep∧JS p.End∧Kg p.Allowed.l
def Ep(l:List Aj):List (Ar UInt8 32):=OU::l.map (·.Key)
def D4(l:List Aj):List Aw:=l.flatMap (·.Allowed.l)
def Good(l:List Aj):Prop:=(∀p∈l,Qf p)∧(Ep l).Nodup∧(D4 l).Nodup
def Co(c:AG):Prop:=JR c.Port∧c.Peers.l.length≤16∧Good c.Peers.l∧(D4 c.Peers.l).length≤64
def EJ(c:AG):Prop:=c.Peers.l.length≤20∧ ∀p∈c.Peers.l,p.Allowed.l.length≤80
theorem Me(l:List Aj)(p:Aj):Ep (l++[p])=Ep l++[p.Key]:=by simp[Ep]
theorem Km(l:List Aj)(p:Aj):D4 (l++[p])=D4 l++p.Allowed.l:=by simp[D4]
theorem GG{α:Type}{l:List α}{x:α}:(l++[x]).Nodup↔l.Nodup∧x∉l:=by
 rw[List.nodup_append]
 constructor
 ·rintro⟨h1,_,h3⟩;exact⟨h1,fun h=>h3 x h x (by simp) rfl⟩
 ·rintro⟨h1,h2⟩
  refine⟨h1,by simp,fun a ha b hb e=> ?_⟩
  simp only[List.mem_singleton]at hb
  subst hb;subst e;exact h2 ha
theorem PB(l:List Aj)(p:Aj):Good (l++[p])↔Good l∧Qf p∧p.Key∉Ep l∧(D4 l++p.Allowed.l).Nodup:=by
 unfold Good
 rw[Me,Km,GG]
 constructor
 ·rintro⟨h1,⟨h2,h3⟩,h4⟩
  exact⟨⟨fun q hq=>h1 q (by simp[hq]),h2,(List.nodup_append.1 h4).1⟩,h1 p (by simp),h3,h4⟩
 ·rintro⟨⟨h1,h2,_⟩,h3,h4,h5⟩
  refine⟨fun q hq=> ?_,⟨h2,h4⟩,h5⟩
  rcases List.mem_append.1 hq with hq|hq
  ·exact h1 q hq
  ·rw[List.mem_singleton.1 hq];exact h3
theorem Good.take{l:List Aj}(h:Good l)(n:Nat):Good (l.take n):=by
 have e:l=l.take n++l.drop n:=(List.take_append_drop n l).symm
 unfold Good at h ⊢
 refine⟨fun p hp=>h.1 p (List.mem_of_mem_take hp),?_,?_⟩
 ·have:=h.2.1
  rw[e]at this
  simp only[Ep,List.map_append,List.nodup_cons,List.mem_append,not_or,List.nodup_append]at this ⊢
  exact⟨this.1.1,this.2.1⟩
 ·have:=h.2.2
  rw[e]at this
  simp only[D4,List.flatMap_append]at this
  exact(List.nodup_append.1 this).1
theorem Ra{ρ:Type}{F:Int×List (Aw×Bool)→Option ((Int×List (Aw×Bool))⊕(List (Aw×Bool)⊕ρ))}(l:List Aw)(bad:ρ)
  (hF: ∀(k:Nat) (m:List (Aw×Bool)) (h:k<l.length),F ((k:Int),m)=if(Fb Ed m l[k]).getD false=true then some (.inr (.inr bad))else some (.inl (((k+1:Nat):Int),H3 Ed m l[k] true)))
  (hE: ∀m,F ((l.length:Int),m)=some (.inr (.inl m))) (o:List Aw) (ho:o.Nodup):iter F (0,tm o)=some (if(o++l).Nodup then .inl (tm (o++l))else .inr bad):=by
 refine R6 (fun s:Int×List (Aw×Bool)=>l.length-s.1.toNat) (fun s:Int×List (Aw×Bool)=> ∃k:Nat,s.1=(k:Int)∧k≤l.length∧s.2=tm (o++l.take k)∧(o++l.take k).Nodup) ?_ ⟨0,rfl,by omega,by simp,by simpa using ho⟩
 rintro⟨s,m⟩ ⟨k,rfl,h1,h2,h3⟩
 dsimp only at h2 ⊢
 subst h2
 by_cases hk:k<l.length
 ·rw[hF k _ hk]
  have ht:l.take (k+1)=l.take k++[l[k]]:=List.take_succ_eq_append_getElem hk
  by_cases hm:l[k]∈o++l.take k
  ·right
   rw[if_pos (Qm YN hm),if_neg]
   intro hn
   have e:o++l=(o++l.take k++[l[k]])++l.drop (k+1):=by
    rw[List.append_assoc o,←ht,List.append_assoc,List.take_append_drop]
   rw[e]at hn
   exact(GG.1 (List.nodup_append.1 hn).1).2 hm
  ·left
   rw[if_neg (by rw[Nu YN hm];simp),Ql YN hm]
   refine⟨_,rfl,⟨k+1,rfl,by omega,?_,?_⟩,by dsimp only;omega⟩
   ·rw[ht,List.append_assoc]
   ·rw[ht,←List.append_assoc,GG];exact⟨h3,hm⟩
 ·obtain rfl:k=l.length:=by omega
  right
  rw[hE]
  rw[List.take_length]at h3 ⊢
  rw[if_pos h3]
theorem MX(c:AG)(hs:EJ c):GA c=some (decide (Co c)):=by
 have hlen:=hs.1
 unfold GA
 simp only[Ud,Option.bind_some]
 by_cases hp:JR c.Port
 rotate_left
 ·have: ¬Co c:=fun h=>hp h.1
  simp[Ek,hp,this]
 by_cases h16:16<c.Peers.l.length
 ·have: ¬Co c:=fun h=>by have:=h.2.1;omega
  have hd:decide (16<(c.Peers.l.length:Int))=true:=decide_eq_true (by omega)
  simp[Ek,hp,this,hd]
 have hd:decide (16<(c.Peers.l.length:Int))=false:=decide_eq_false (by omega)
 have h0:H3 Br ([]:List ((Ar UInt8 32)×Bool)) (⟨[0,0,0,0,0,0,0,0,0,0,0,0,0,0,0,0,0,0,0,0,0,0,0,0,0,0,0,0,0,0,0,0],rfl⟩:(Ar UInt8 32)) true=tm (Ep []):=rfl
 simp only[Ek,hp,hd,decide_true,Bool.not_true,Bool.false_eq_true,if_false,Option.bind_some,h0]
 refine ES (fun s=>c.Peers.l.length-s.1.toNat) (fun s=> ∃n:Nat,s.1=(n:Int)∧n≤c.Peers.l.length∧s.2.1=tm (Ep (c.Peers.l.take n))∧s.2.2=tm (D4 (c.Peers.l.take n))∧Good (c.Peers.l.take n))
  (fun r=>(r= .inl (tm (D4 c.Peers.l))∧Good c.Peers.l)∨(r= .inr false∧ ¬Good c.Peers.l)) ⟨0,rfl,by omega,rfl,rfl,by simp[Good,Ep,D4]⟩ ?_ ?_
 ·rintro⟨s,km,om⟩ ⟨n,rfl,h1,h2,h3,h4⟩
  dsimp only at h2 h3 ⊢
  subst h2 h3
  by_cases hn:n<c.Peers.l.length
  ·have hall:=hs.2 _ (List.getElem_mem hn)
   have ht:c.Peers.l.take (n+1)=c.Peers.l.take n++[c.Peers.l[n]]:=List.take_succ_eq_append_getElem hn
   have hg:=PB (c.Peers.l.take n) c.Peers.l[n]
   rw[←ht]at hg
   have bad: ¬(Qf c.Peers.l[n]∧c.Peers.l[n].Key∉Ep (c.Peers.l.take n)∧(D4 (c.Peers.l.take n)++c.Peers.l[n].Allowed.l).Nodup)→ ¬Good c.Peers.l:=fun hb hG=>hb (hg.1 (hG.take (n+1))).2
   rw[if_pos (by simpa using hn),BG,List.getElem?_eq_getElem hn]
   simp only[Option.bind_some]
   by_cases hk:c.Peers.l[n].Key∈Ep (c.Peers.l.take n)
   ·right
    refine⟨.inr false,?_, .inr ⟨rfl,bad fun h=>h.2.1 hk⟩⟩
    rw[Qm Wa hk]
    rfl
   rw[Nu Wa hk]
   by_cases hkeep:JR c.Peers.l[n].Keep
   rotate_left
   ·right
    refine⟨.inr false,?_, .inr ⟨rfl,bad fun h=>hkeep h.1.1⟩⟩
    rw[decide_eq_false hkeep]
    rfl
   rw[decide_eq_true hkeep]
   simp only[Bool.not_true,Bool.false_eq_true,if_false,Option.bind_some]
   rw[S2 _ (by omega)]
   by_cases hris:Kg c.Peers.l[n].Allowed.l
   rotate_left
   ·right
    refine⟨.inr false,?_, .inr ⟨rfl,bad fun h=>hris h.1.2.2⟩⟩
    rw[decide_eq_false hris]
    rfl
   rw[decide_eq_true hris]
   have hend:((CC c.Peers.l[n].End).bind fun x30=>(BS (!x30) ((D5 c.Peers.l[n].End).bind fun x33=>some (!x33))))=some (!decide (JS c.Peers.l[n].End)):=by
    rw[J0,SW]
    simp only[Option.bind_some]
    by_cases e:c.Peers.l[n].End=⟨Ao.z,0⟩
    ·have:JS c.Peers.l[n].End:= .inl e
     simp[BS,e,this]
     exact .inl rfl
    ·have:JS c.Peers.l[n].End↔HZ c.Peers.l[n].End=true:=⟨fun h=>h.resolve_left e, .inr⟩
     cases hr:HZ c.Peers.l[n].End with
     |true=>simp[BS,e,this,hr]
     |false=>simp[BS,e,this,hr]
   have hend': ∀{γ:Type} (K:Bool→Option γ),((CC c.Peers.l[n].End).bind fun x30=>(BS (!x30) ((D5 c.Peers.l[n].End).bind fun x33=>some (!x33))).bind K)=K (!decide (JS c.Peers.l[n].End)):=fun K=>by
    have:=congrArg (fun x=>x.bind K) hend
    simpa only[Option.bind_assoc,Option.bind_some]using this
   simp only[Bool.not_true,Bool.false_eq_true,if_false,Option.bind_some]
   rw[hend']
   by_cases hE:JS c.Peers.l[n].End
   rotate_left
   ·right
    refine⟨.inr false,?_, .inr ⟨rfl,bad fun h=>hE h.1.2.1⟩⟩
    rw[decide_eq_false hE]
    rfl
   rw[decide_eq_true hE]
   simp only[Bool.not_true,Bool.false_eq_true,if_false]
   have hw1:IntKind.i64.wrap ((n:Int)+1)=((n+1:Nat):Int):=by rw[show(n:Int)+1=((n+1:Nat):Int) by omega,CL (by omega)]
   by_cases hN:(D4 (c.Peers.l.take n)++c.Peers.l[n].Allowed.l).Nodup
   ·left
    refine⟨(((n+1:Nat):Int),tm (Ep (c.Peers.l.take (n+1))),tm (D4 (c.Peers.l.take (n+1)))),?_,⟨n+1,rfl,by omega,rfl,rfl,hg.2 ⟨h4,⟨hkeep,hE,hris⟩,hk,hN⟩⟩,by dsimp only;omega⟩
    refine(congrArg (fun x=>Option.bind x _) (Ra c.Peers.l[n].Allowed.l (.inr (.inr false)) ?_ ?_ (D4 (c.Peers.l.take n)) h4.2.2)).trans ?_
    ·intro k m h
     dsimp only
     rw[if_pos (by simpa using h),BG,List.getElem?_eq_getElem h,show(k:Int)+1=((k+1:Nat):Int) by omega,CL (by omega)]
     rfl
    ·intro m
     dsimp only
     rw[if_neg (by simp)]
    ·rw[if_pos hN,hw1,Ql Wa hk,ht,Me,Km]
     rfl
   ·right
    refine⟨.inr false,?_, .inr ⟨rfl,bad fun h=>hN h.2.2⟩⟩
    refine(congrArg (fun x=>Option.bind x _) (Ra c.Peers.l[n].Allowed.l (.inr (.inr false)) ?_ ?_ (D4 (c.Peers.l.take n)) h4.2.2)).trans ?_
    ·intro k m h
     dsimp only
     rw[if_pos (by simpa using h),BG,List.getElem?_eq_getElem h,show(k:Int)+1=((k+1:Nat):Int) by omega,CL (by omega)]
     rfl
    ·intro m
     dsimp only
     rw[if_neg (by simp)]
    ·rw[if_neg hN]
     rfl
  ·obtain rfl:n=c.Peers.l.length:=by omega
   right
   rw[if_neg (by simp)]
   rw[List.take_length]at h4 ⊢
   exact⟨_,rfl, .inl ⟨rfl,h4⟩⟩
 ·rintro _ (⟨rfl,hG⟩|⟨rfl,hG⟩)
  ·simp only[Sum.elim_inl,XZ]
   congr 1
   rw[decide_eq_decide]
   constructor
   ·intro h;exact⟨hp,by omega,hG,by omega⟩
   ·intro h;have:=h.2.2.2;omega
  ·have: ¬Co c:=fun h=>hG h.2.2.1
   simp[this]
theorem K8{α β ρ:Type}{l:List α}{x:α}{F:Int→Option (Int⊕(Unit⊕β))}{K:Unit⊕β→Option ρ}{b:β}(n:Nat)(hn:n≤l.length)(hl:l.length<4611686018427387904)
  (h1: ∀i (h:i<n),(l[i]'(by omega)=x→F (i:Int)=some (.inr (.inr b)))∧(l[i]'(by omega)≠x→F (i:Int)=some (.inl (IntKind.i64.wrap ((i:Int)+1))))) (h2:F (n:Int)=some (.inr (.inl ()))):
  (x∈l.take n→(iter F 0).bind K=K (.inr b))∧(x∉l.take n→(iter F 0).bind K=K (.inl ())):=by
 have key:=T7 (F:=F) (K:=K) (k:=0) (n:=n) (fun i=>if l[i]? =some x then some b else none) (by omega) (by omega) (fun i _ hi=>by
  have hil:i<l.length:=by omega
  by_cases e:l[i]=x
  ·rw[(h1 i hi).1 e];simp[List.getElem?_eq_getElem hil,e]
  ·rw[(h1 i hi).2 e];simp[List.getElem?_eq_getElem hil,e]) h2
 have key':(iter F 0).bind K=_:=key
 rw[key']
 constructor
 ·intro hx
  cases e:(List.range' 0 (n-0)).findSome? (fun i=>if l[i]? =some x then some b else none)with
  |none=>
   obtain⟨i,hi,hg⟩:=List.getElem_of_mem hx
   rw[List.length_take]at hi
   have:=List.findSome?_eq_none_iff.1 e i (by rw[List.mem_range'_1];omega)
   rw[List.getElem_take]at hg
   rw[List.getElem?_eq_getElem (show i<l.length by omega),hg]at this
   simp at this
  |some c=>
   obtain⟨i,hi,h'⟩:=List.exists_of_findSome?_eq_some e
   split at h'
   ·cases h';rfl
   ·cases h'
 ·intro hx
  cases e:(List.range' 0 (n-0)).findSome? (fun i=>if l[i]? =some x then some b else none)with
  |none=>rfl
  |some c=>
   obtain⟨i,hi,h'⟩:=List.exists_of_findSome?_eq_some e
   rw[List.mem_range'_1]at hi
   split at h'
   ·rename_i hg
    obtain⟨hlt,hg⟩:=List.getElem?_eq_some_iff.1 hg
    exact absurd (List.mem_take_iff_getElem.2 ⟨i,by omega,hg⟩) hx
   ·cases h'
theorem K9{α β ρ:Type}{l:List α}{x:α}{F:Int→Option (Int⊕(Unit⊕β))}{K:Unit⊕β→Option ρ}{b:β}(hl:l.length<4611686018427387904)
  (h1: ∀i (h:i<l.length),(l[i]=x→F (i:Int)=some (.inr (.inr b)))∧(l[i]≠x→F (i:Int)=some (.inl (IntKind.i64.wrap ((i:Int)+1))))) (h2:F (l.length:Int)=some (.inr (.inl ()))):
  (x∈l→(iter F 0).bind K=K (.inr b))∧(x∉l→(iter F 0).bind K=K (.inl ())):=by
 have:=K8 (l:=l) (x:=x) (K:=K) l.length (Nat.le_refl _) hl h1 h2
 rwa [List.take_length]at this
theorem Ph{ρ:Type}{F:Int×GS Aw→Option ((Int×GS Aw)⊕(GS Aw⊕ρ))}(l:List Aw)(bad:ρ)
  (hF: ∀(k:Nat) (m:List Aw) (h:k<l.length),m.length≤1700→F ((k:Int),JW m)=some (if JH l k∧l[k]∉m then .inl (((k+1:Nat):Int),JW (m++[l[k]]))else .inr (.inr bad)))
  (hE: ∀m,F ((l.length:Int),m)=some (.inr (.inl m))) (o:List Aw) (ho:o.Nodup) (hb:o.length+l.length≤1700):iter F (0,JW o)=some (if Kg l∧(o++l).Nodup then .inl (JW (o++l))else .inr bad):=by
 refine R6 (fun s=>l.length-s.1.toNat) (fun s=> ∃k:Nat,s.1=(k:Int)∧k≤l.length∧s.2=JW (o++l.take k)∧(o++l.take k).Nodup∧ ∀i,i<k→JH l i) ?_ ⟨0,rfl,by omega,by simp,by simpa using ho,fun i hi=>by omega⟩
 rintro⟨s,m⟩ ⟨k,rfl,h1,h2,h3,h5⟩
 dsimp only at h2 ⊢
 subst h2
 by_cases hk:k<l.length
 ·rw[hF k _ hk (by rw[List.length_append,List.length_take];omega)]
  have ht:l.take (k+1)=l.take k++[l[k]]:=List.take_succ_eq_append_getElem hk
  by_cases hm:JH l k∧l[k]∉o++l.take k
  ·left
   rw[if_pos hm]
   refine⟨_,rfl,⟨k+1,rfl,by omega,?_,?_,?_⟩,by dsimp only;omega⟩
   ·rw[ht,List.append_assoc]
   ·rw[ht,←List.append_assoc,GG];exact⟨h3,hm.2⟩
   ·intro i hi
    rcases Nat.lt_or_ge i k with h|h
    ·exact h5 i h
    ·obtain rfl:i=k:=by omega
     exact hm.1
  ·right
   rw[if_neg hm,if_neg]
   rintro⟨hr,hn⟩
   refine hm ⟨hr k hk,fun hin=> ?_⟩
   have e:o++l=(o++l.take k++[l[k]])++l.drop (k+1):=by
    rw[List.append_assoc o,←ht,List.append_assoc,List.take_append_drop]
   rw[e]at hn
   exact(GG.1 (List.nodup_append.1 hn).1).2 hin
 ·obtain rfl:k=l.length:=by omega
  right
  rw[hE]
  rw[List.take_length]at h3 ⊢
  rw[if_pos ⟨fun i hi=>h5 i hi,h3⟩]
theorem Uk{l:List Aj}{n:Nat}(h: ∀p∈l,p.Allowed.l.length≤n):(D4 l).length≤l.length*n:=by
 induction l with
 |nil=>simp[D4]
 |cons p l ih=>
  have h1:=h p (by simp)
  have h2:=ih fun q hq=>h q (by simp[hq])
  simp only[D4,List.flatMap_cons,List.length_append,List.length_cons,Nat.add_mul,Nat.one_mul]at h2 ⊢
  omega
theorem Jt(c:AG)(hs:EJ c):F1 c=some (decide (Co c)):=by
 have hlen:=hs.1
 unfold F1
 simp only[VV,Option.bind_some]
 by_cases hp:JR c.Port
 rotate_left
 ·have: ¬Co c:=fun h=>hp h.1
  simp[Ek,hp,this]
 by_cases h16:16<c.Peers.l.length
 ·have: ¬Co c:=fun h=>by have:=h.2.1;omega
  have hd:decide (16<(c.Peers.l.length:Int))=true:=decide_eq_true (by omega)
  simp[Ek,hp,this,hd]
 have hd:decide (16<(c.Peers.l.length:Int))=false:=decide_eq_false (by omega)
 simp only[Ek,hp,hd,decide_true,Bool.not_true,Bool.false_eq_true,if_false,Option.bind_some]
 refine ES (fun s=>c.Peers.l.length-s.1.toNat) (fun s=> ∃n:Nat,s.1=(n:Int)∧n≤c.Peers.l.length∧s.2=JW (D4 (c.Peers.l.take n))∧Good (c.Peers.l.take n))
  (fun r=>(r= .inl (JW (D4 c.Peers.l))∧Good c.Peers.l)∨(r= .inr false∧ ¬Good c.Peers.l)) ⟨0,rfl,by omega,rfl,by simp[Good,Ep,D4]⟩ ?_ ?_
 ·rintro⟨s,om⟩ ⟨n,rfl,h1,h3,h4⟩
  dsimp only at h3 ⊢
  subst h3
  by_cases hn:n<c.Peers.l.length
  ·have hall:=hs.2 _ (List.getElem_mem hn)
   have ht:c.Peers.l.take (n+1)=c.Peers.l.take n++[c.Peers.l[n]]:=List.take_succ_eq_append_getElem hn
   have hg:=PB (c.Peers.l.take n) c.Peers.l[n]
   rw[←ht]at hg
   have bad: ¬(Qf c.Peers.l[n]∧c.Peers.l[n].Key∉Ep (c.Peers.l.take n)∧(D4 (c.Peers.l.take n)++c.Peers.l[n].Allowed.l).Nodup)→ ¬Good c.Peers.l:=fun hb hG=>hb (hg.1 (hG.take (n+1))).2
   have hkz:c.Peers.l[n].Key∈Ep (c.Peers.l.take n)↔c.Peers.l[n].Key=OU∨c.Peers.l[n].Key∈(c.Peers.l.take n).map (·.Key):=by simp[Ep]
   have hpl:(D4 (c.Peers.l.take n)).length≤1600:=by
    have:=Uk (l:=c.Peers.l.take n) (n:=80) fun p hp=>hs.2 p (List.mem_of_mem_take hp)
    rw[List.length_take]at this
    have h2:min n c.Peers.l.length*80≤20*80:=Nat.mul_le_mul_right _ (by omega)
    omega
   have hw1:IntKind.i64.wrap ((n:Int)+1)=((n+1:Nat):Int):=by rw[show(n:Int)+1=((n+1:Nat):Int) by omega,CL (by omega)]
   rw[if_pos (by simpa using hn),BG,List.getElem?_eq_getElem hn]
   simp only[Option.bind_some,MC]
   have hz:(⟨[0,0,0,0,0,0,0,0,0,0,0,0,0,0,0,0,0,0,0,0,0,0,0,0,0,0,0,0,0,0,0,0],rfl⟩:(Ar UInt8 32))=OU:=rfl
   rw[hz]
   by_cases hk0:c.Peers.l[n].Key=OU
   ·right
    refine⟨.inr false,?_, .inr ⟨rfl,bad fun h=>h.2.1 (hkz.2 (.inl hk0))⟩⟩
    rw[decide_eq_true hk0]
    rfl
   rw[decide_eq_false hk0]
   by_cases hkeep:JR c.Peers.l[n].Keep
   rotate_left
   ·right
    refine⟨.inr false,?_, .inr ⟨rfl,bad fun h=>hkeep h.1.1⟩⟩
    rw[decide_eq_false hkeep]
    rfl
   rw[decide_eq_true hkeep]
   have hend: ∀{γ:Type} (K:Bool→Option γ),((BS (!(Dw Bh c.Peers.l[n].End (⟨Ao.z,0⟩:AP))) ((HC c.Peers.l[n].End).bind fun x29=>some (!x29))).bind K)=K (!decide (JS c.Peers.l[n].End)):=fun K=>by
    simp only[Sd,Ui,Option.bind_some]
    by_cases e:c.Peers.l[n].End=⟨Ao.z,0⟩
    ·have:JS c.Peers.l[n].End:= .inl e
     rw[decide_eq_true e,decide_eq_true this];rfl
    ·have:JS c.Peers.l[n].End↔HZ c.Peers.l[n].End=true:=⟨fun h=>h.resolve_left e, .inr⟩
     rw[decide_eq_false e]
     cases hr:HZ c.Peers.l[n].End with
     |true=>rw[decide_eq_true (this.2 hr)];rfl
     |false=>rw[decide_eq_false (fun h=>by rw[this.1 h]at hr;cases hr)];rfl
   simp only[Bool.not_true,Bool.false_eq_true,if_false,Option.bind_some]
   rw[hend]
   by_cases hE:JS c.Peers.l[n].End
   rotate_left
   ·right
    refine⟨.inr false,?_, .inr ⟨rfl,bad fun h=>hE h.1.2.1⟩⟩
    rw[decide_eq_false hE]
    rfl
   rw[decide_eq_true hE]
   simp only[Bool.not_true,Bool.false_eq_true,if_false,Option.bind_some]
   have hmem:c.Peers.l[n].Key∈(c.Peers.l.map (·.Key)).take n↔c.Peers.l[n].Key∈(c.Peers.l.take n).map (·.Key):=by rw[List.map_take]
   by_cases hk1:c.Peers.l[n].Key∈(c.Peers.l.map (·.Key)).take n
   ·right
    refine⟨.inr false,?_, .inr ⟨rfl,bad fun h=>h.2.1 (hkz.2 (.inr (hmem.1 hk1)))⟩⟩
    refine((K8 (l:=c.Peers.l.map (·.Key)) (b:= .inr (.inr false)) n (by rw[List.length_map];omega) (by rw[List.length_map];omega) ?_ ?_).1 hk1).trans ?_
    ·intro i hi
     rw[if_pos (by rw[decide_eq_true_eq];omega),BG,List.getElem?_eq_getElem (show i<c.Peers.l.length by omega),List.getElem_map]
     simp only[Option.bind_some]
     exact⟨fun e=>by rw[if_pos (decide_eq_true e)];rfl,fun e=>by rw[if_neg (by rw[decide_eq_false e];simp)]⟩
    ·rw[if_neg (by rw[decide_eq_true_eq];omega)]
    ·rfl
   have hk:c.Peers.l[n].Key∉Ep (c.Peers.l.take n):=fun h=>(hkz.1 h).elim hk0 fun h=>hk1 (hmem.2 h)
   by_cases hN:Kg c.Peers.l[n].Allowed.l∧(D4 (c.Peers.l.take n)++c.Peers.l[n].Allowed.l).Nodup
   ·left
    refine⟨(((n+1:Nat):Int),JW (D4 (c.Peers.l.take (n+1)))),?_,⟨n+1,rfl,by omega,rfl,hg.2 ⟨h4,⟨hkeep,hE,hN.1⟩,hk,hN.2⟩⟩,by dsimp only;omega⟩
    refine((K8 (l:=c.Peers.l.map (·.Key)) (b:= .inr (.inr false)) n (by rw[List.length_map];omega) (by rw[List.length_map];omega) ?_ ?_).2 hk1).trans ?_
    ·intro i hi
     rw[if_pos (by rw[decide_eq_true_eq];omega),BG,List.getElem?_eq_getElem (show i<c.Peers.l.length by omega),List.getElem_map]
     simp only[Option.bind_some]
     exact⟨fun e=>by rw[if_pos (decide_eq_true e)];rfl,fun e=>by rw[if_neg (by rw[decide_eq_false e];simp)]⟩
    ·rw[if_neg (by rw[decide_eq_true_eq];omega)]
    ·dsimp only[Sum.elim_inl]
     refine(congrArg (fun x=>Option.bind x _) (Ph c.Peers.l[n].Allowed.l (.inr (.inr false)) ?_ ?_ (D4 (c.Peers.l.take n)) h4.2.2 (by omega))).trans ?_
     ·intro k m h hm
      have hgl:=KR m
      have htst:=L6 h (by omega) (f:=G1) (g:=HD) Ju QX
      dsimp only
      rw[if_pos (by simpa using h),BG,List.getElem?_eq_getElem h,Option.bind_some]
      simp only[Ek]at htst
      rw[Ju]at htst ⊢
      simp only[Option.bind_some]at htst ⊢
      rw[htst]
      by_cases hok:JH c.Peers.l[n].Allowed.l k
      ·rw[decide_eq_true hok]
       simp only[Option.bind_some,Bool.not_true,Bool.false_eq_true,if_false]
       by_cases hin:c.Peers.l[n].Allowed.l[k]∈m
       ·rw[if_neg (fun h=>h.2 hin)]
        refine((K9 (l:=m) (x:=c.Peers.l[n].Allowed.l[k]) (b:=(Sum.inr (Sum.inr (Sum.inr (Sum.inr false))):(Int×GS Aw)⊕(GS Aw⊕((Int×GS Aw)⊕(GS Aw⊕Bool))))) (by omega) ?_ ?_).1 hin).trans ?_
        skip
        ·intro i hi
         rw[if_pos (by rw[decide_eq_true_eq,hgl];omega),FQ (by rw[hgl];exact hi),Option.bind_some,hgl,List.getElem?_eq_getElem hi]
         simp only[Option.map_some,Option.bind_some,UC]
         exact⟨fun e=>by rw[if_pos (decide_eq_true e)],fun e=>by rw[if_neg (by rw[decide_eq_false e];simp)]⟩
        ·rw[if_neg (by rw[decide_eq_true_eq,hgl];omega)]
        ·rfl
       ·rw[if_pos ⟨hok,hin⟩]
        refine((K9 (l:=m) (x:=c.Peers.l[n].Allowed.l[k]) (b:=(Sum.inr (Sum.inr (Sum.inr (Sum.inr false))):(Int×GS Aw)⊕(GS Aw⊕((Int×GS Aw)⊕(GS Aw⊕Bool))))) (by omega) ?_ ?_).2 hin).trans ?_
        skip
        ·intro i hi
         rw[if_pos (by rw[decide_eq_true_eq,hgl];omega),FQ (by rw[hgl];exact hi),Option.bind_some,hgl,List.getElem?_eq_getElem hi]
         simp only[Option.map_some,Option.bind_some,UC]
         exact⟨fun e=>by rw[if_pos (decide_eq_true e)],fun e=>by rw[if_neg (by rw[decide_eq_false e];simp)]⟩
        ·rw[if_neg (by rw[decide_eq_true_eq,hgl];omega)]
        ·dsimp only[Sum.elim_inl]
         rw[QB (by rw[hgl];unfold GH;omega),show(k:Int)+1=((k+1:Nat):Int) by omega,CL (by omega),hgl,ND]
         rfl
      ·rw[decide_eq_false hok,if_neg (fun h=>hok h.1)]
       rfl
     ·intro m
      dsimp only
      rw[if_neg (by simp)]
     ·rw[if_pos hN,hw1,ht,Km]
      rfl
   ·right
    refine⟨.inr false,?_, .inr ⟨rfl,bad fun h=>hN ⟨h.1.2.2,h.2.2⟩⟩⟩
    refine((K8 (l:=c.Peers.l.map (·.Key)) (b:= .inr (.inr false)) n (by rw[List.length_map];omega) (by rw[List.length_map];omega) ?_ ?_).2 hk1).trans ?_
    ·intro i hi
     rw[if_pos (by rw[decide_eq_true_eq];omega),BG,List.getElem?_eq_getElem (show i<c.Peers.l.length by omega),List.getElem_map]
     simp only[Option.bind_some]
     exact⟨fun e=>by rw[if_pos (decide_eq_true e)];rfl,fun e=>by rw[if_neg (by rw[decide_eq_false e];simp)]⟩
    ·rw[if_neg (by rw[decide_eq_true_eq];omega)]
    ·dsimp only[Sum.elim_inl]
     refine(congrArg (fun x=>Option.bind x _) (Ph c.Peers.l[n].Allowed.l (.inr (.inr false)) ?_ ?_ (D4 (c.Peers.l.take n)) h4.2.2 (by omega))).trans ?_
     ·intro k m h hm
      have hgl:=KR m
      have htst:=L6 h (by omega) (f:=G1) (g:=HD) Ju QX
      dsimp only
      rw[if_pos (by simpa using h),BG,List.getElem?_eq_getElem h,Option.bind_some]
      simp only[Ek]at htst
      rw[Ju]at htst ⊢
      simp only[Option.bind_some]at htst ⊢
      rw[htst]
      by_cases hok:JH c.Peers.l[n].Allowed.l k
      ·rw[decide_eq_true hok]
       simp only[Option.bind_some,Bool.not_true,Bool.false_eq_true,if_false]
       by_cases hin:c.Peers.l[n].Allowed.l[k]∈m
       ·rw[if_neg (fun h=>h.2 hin)]
        refine((K9 (l:=m) (x:=c.Peers.l[n].Allowed.l[k]) (b:=(Sum.inr (Sum.inr (Sum.inr (Sum.inr false))):(Int×GS Aw)⊕(GS Aw⊕((Int×GS Aw)⊕(GS Aw⊕Bool))))) (by omega) ?_ ?_).1 hin).trans ?_
        skip
        ·intro i hi
         rw[if_pos (by rw[decide_eq_true_eq,hgl];omega),FQ (by rw[hgl];exact hi),Option.bind_some,hgl,List.getElem?_eq_getElem hi]
         simp only[Option.map_some,Option.bind_some,UC]
         exact⟨fun e=>by rw[if_pos (decide_eq_true e)],fun e=>by rw[if_neg (by rw[decide_eq_false e];simp)]⟩
        ·rw[if_neg (by rw[decide_eq_true_eq,hgl];omega)]
        ·rfl
       ·rw[if_pos ⟨hok,hin⟩]
        refine((K9 (l:=m) (x:=c.Peers.l[n].Allowed.l[k]) (b:=(Sum.inr (Sum.inr (Sum.inr (Sum.inr false))):(Int×GS Aw)⊕(GS Aw⊕((Int×GS Aw)⊕(GS Aw⊕Bool))))) (by omega) ?_ ?_).2 hin).trans ?_
        skip
        ·intro i hi
         rw[if_pos (by rw[decide_eq_true_eq,hgl];omega),FQ (by rw[hgl];exact hi),Option.bind_some,hgl,List.getElem?_eq_getElem hi]
         simp only[Option.map_some,Option.bind_some,UC]
         exact⟨fun e=>by rw[if_pos (decide_eq_true e)],fun e=>by rw[if_neg (by rw[decide_eq_false e];simp)]⟩
        ·rw[if_neg (by rw[decide_eq_true_eq,hgl];omega)]
        ·dsimp only[Sum.elim_inl]
         rw[QB (by rw[hgl];unfold GH;omega),show(k:Int)+1=((k+1:Nat):Int) by omega,CL (by omega),hgl,ND]
         rfl
      ·rw[decide_eq_false hok,if_neg (fun h=>hok h.1)]
       rfl
     ·intro m
      dsimp only
      rw[if_neg (by simp)]
     ·rw[if_neg hN]
      rfl
  ·obtain rfl:n=c.Peers.l.length:=by omega
   right
   rw[if_neg (by simp)]
   rw[List.take_length]at h4 ⊢
   exact⟨_,rfl, .inl ⟨rfl,h4⟩⟩
 ·rintro _ (⟨rfl,hG⟩|⟨rfl,hG⟩)
  ·simp only[Sum.elim_inl,KR]
   congr 1
   rw[decide_eq_decide]
   constructor
   ·intro h;exact⟨hp,by omega,hG,by omega⟩
   ·intro h;have:=h.2.2.2;omega
  ·have: ¬Co c:=fun h=>hG h.2.2.1
   simp[this]
end Go.Proofs.Ytapafbjgdfgodaa.Am
namespace Go.Proofs.Ytapafbjgdfgodaa.Am
open Classical
theorem Zg{β:Type}{n:Nat}{F:Int→Option (Int⊕(Unit⊕β))}{K:Unit→Option β}(q:Nat→Option β)(hn:n<4611686018427387904)(h1: ∀i:Nat,i<n→F (i:Int)=some (match q i with|none=> .inl (IntKind.i64.wrap ((i:Int)+1))|some b=> .inr (.inr b)))
  (h2:F (n:Int)=some (.inr (.inl ()))):(iter F 0).bind (Sum.elim K some)=(match(List.range n).findSome? q with|none=>K ()|some b=>some b):=by
 refine ES (fun s=>n-s.toNat) (fun s=> ∃i:Nat,s=i∧i≤n∧ ∀j,j<i→q j=none)
  (fun r=>(r= .inl ()∧ ∀j,j<n→q j=none)∨ ∃b,r= .inr b∧(List.range n).findSome? q=some b) ⟨0,rfl,by omega,by omega⟩ ?_ ?_
 ·rintro s ⟨i,rfl,hi,hq⟩
  rcases Nat.lt_or_ge i n with hlt|hge
  ·rw[h1 i hlt]
   cases e:q i with
   |none=>
    left
    refine⟨_,rfl,⟨i+1,?_,by omega,fun j hj=> ?_⟩,?_⟩
    ·rw[show(i:Int)+1=((i+1:Nat):Int) by omega,CL (by omega)]
    ·rcases Nat.lt_or_ge j i with h|h
     ·exact hq j h
     ·obtain rfl:j=i:=by omega
      exact e
    ·rw[show(i:Int)+1=((i+1:Nat):Int) by omega,CL (by omega)];omega
   |some b=>
    right
    refine⟨_,rfl, .inr ⟨b,rfl,?_⟩⟩
    have:List.range n=List.range i++[i]++(List.range (n-(i+1))).map ((i+1)+ ·):=by
     rw[←List.range_succ,←List.range_add];congr 1;omega
    rw[this,List.findSome?_append,List.findSome?_append,List.findSome?_eq_none_iff.2 (fun j hj=>hq j (List.mem_range.1 hj))]
    simp[e]
  ·obtain rfl:i=n:=by omega
   right
   exact⟨_,h2, .inl ⟨rfl,hq⟩⟩
 ·rintro _ (⟨rfl,h⟩|⟨b,rfl,h⟩)
  ·rw[List.findSome?_eq_none_iff.2 (fun j hj=>h j (List.mem_range.1 hj))];rfl
  ·rw[h];rfl
theorem X0(x y:Aw):Dw BZ x y=decide (x=y):=
 if h:x=y then(Jk (t:=An) h).trans (decide_eq_true h).symm else(KY (t:=An) h).trans (decide_eq_false h).symm
theorem Wx{a b:List Aw}(h:a.length=b.length):((List.range a.length).findSome? fun i=>if a[i]? =b[i]? then none else some false)=none↔a=b:=by
 rw[List.findSome?_eq_none_iff]
 constructor
 ·intro g
  apply List.ext_getElem?
  intro i
  rcases Nat.lt_or_ge i a.length with hi|hi
  ·have:=g i (List.mem_range.2 hi)
   split at this
   ·assumption
   ·cases this
  ·rw[List.getElem?_eq_none hi,List.getElem?_eq_none (by omega)]
 ·rintro rfl i _
  simp
theorem To{q:Nat→Option Bool}(hq: ∀i,q i=none∨q i=some false){n:Nat}:(List.range n).findSome? q=none∨(List.range n).findSome? q=some false:=by
 cases e:(List.range n).findSome? q with
 |none=>exact .inl rfl
 |some b=>
  obtain⟨i,_,h⟩:=List.exists_of_findSome?_eq_some e
  rcases hq i with h'|h'
  ·rw[h]at h';cases h'
  ·rw[h]at h';cases h';exact .inr rfl
theorem Kc(a b:GS Aw)(hl:a.l.length<4611686018427387904):BV a b=some (decide (a.l=b.l)):=by
 unfold BV
 by_cases h:a.l.length=b.l.length
 ·simp only[h,decide_true,Bool.not_true,Bool.false_eq_true,if_false]
  rw[Zg (n:=b.l.length) (fun i=>if a.l[i]? =b.l[i]? then none else some false) (by omega)]
  ·have:=Wx h
   rw[h]at this
   rcases To (q:=fun i=>if a.l[i]? =b.l[i]? then none else some false) (fun i=>by split<;>simp) (n:=b.l.length)with e|e
   ·rw[e];simp[this.1 e]
   ·rw[e]
    have:a.l≠b.l:=fun g=>by rw[this.2 g]at e;cases e
    simp[this]
  ·intro i hi
   rw[if_pos (by simpa using hi),BG,BG,List.getElem?_eq_getElem (by omega),List.getElem?_eq_getElem hi]
   simp only[Option.bind_some,Option.some.injEq]
   rw[X0]
   by_cases e:a.l[i]=b.l[i]<;>simp[e]
  ·rw[if_neg (by simp)]
 ·have h': ¬(a.l.length:Int)=(b.l.length:Int):=by omega
  have:a.l≠b.l:=fun e=>h (by rw[e])
  simp[h',this]
theorem PZ(a b:GS Aw)(hl:a.l.length<4611686018427387904):GB a b=some (decide (a.l=b.l)):=Kc a b hl
end Go.Proofs.Ytapafbjgdfgodaa.Am
namespace Go.Proofs.Ytapafbjgdfgodaa.Am
def zP:Aj:=Ac.z
abbrev LS:=Ar UInt8 32
def H7(l:List Aj)(k:LS):Option Aj:=l.find? fun p=>decide (p.Key=k)
def kp(l:List Aj):List (LS×Aj):=l.map fun p=>(p.Key,p)
theorem Pz{x y:LS}(h:x≠y):Br x y=false:=by
 cases e:Br x y with
 |false=>rfl
 |true=>exact absurd ((Wa x y).1 e) h
theorem TA{p:Aj}: ∀{l:List Aj},p.Key∉l.map (·.Key)→H3 Br (kp l) p.Key p=kp (l++[p])
 |[],_=>rfl
 |q::l,h=>by
  simp only[List.map_cons,List.mem_cons,not_or]at h
  show(bif Br p.Key q.Key then _ else(q.Key,q)::H3 Br (kp l) p.Key p)=_
  rw[Pz h.1,TA h.2];rfl
theorem Jy(k:LS): ∀l:List Aj,Fb Br (kp l) k=H7 l k
 |[]=>rfl
 |q::l=>by
  show(bif Br k q.Key then some q else Fb Br (kp l) k)=_
  rw[Jy k l]
  unfold H7
  rw[List.find?_cons]
  by_cases e:q.Key=k
  ·rw[decide_eq_true e,(Wa k q.Key).2 e.symm];rfl
  ·rw[decide_eq_false e,Pz fun h=>e h.symm];rfl
theorem drop_cons{α:Type}{L r:List α}{x:α}{i:Nat}(h:L.drop i=x::r):i<L.length∧L[i]? =some x∧L.drop (i+1)=r:=by
 refine⟨?_,?_,?_⟩
 ·have:=congrArg List.length h;simp at this;omega
 ·rw[←List.head?_drop,h];rfl
 ·rw[←List.drop_drop,h];rfl
theorem drop_nil{α:Type}{L:List α}{i:Nat}(h:L.drop i=[])(hi:i≤L.length):i=L.length:=by
 have:=congrArg List.length h;simp at this;omega
noncomputable def Wn(a1:AG):Option (List (LS×Aj)):=
 (iter (fun(s5:(Int×(List ((Ar UInt8 32)×Aj))))=>
 if(decide (s5.1<(a1.Peers.l.length:Int)))=true then
 (Gg a1.Peers.l s5.1).bind fun x8=>
 let x14:=H3 (κ:=(Ar UInt8 32)) (ν:=Aj) Br s5.2 x8.Key x8
 some (.inl (IntKind.i64.wrap (s5.1+1),x14))
 else
 some (.inr (.inl s5.2))) (0,([]:List ((Ar UInt8 32)×Aj)))).bind (Sum.elim (fun(p6:(List ((Ar UInt8 32)×Aj)))=>
 some p6) some)
theorem Oh{L:List Aj}{β:Type}(hl:L.length≤100)(hn:(L.map (·.Key)).Nodup){F:Int×List (LS×Aj)→Option ((Int×List (LS×Aj))⊕(List (LS×Aj)⊕β))}
  (hF: ∀(i:Nat) (x:Aj) m,L[i]? =some x→F ((i:Int),m)=some (.inl (((i+1:Nat):Int),H3 Br m x.Key x))) (hE: ∀m,F ((L.length:Int),m)=some (.inr (.inl m))):
  ∀(r:List Aj) (i:Nat),L.drop i=r→i≤L.length→iter F ((i:Int),kp (L.take i))=some (.inl (kp L))
 |[],i,h,hi=>by
  obtain rfl:=drop_nil h hi
  rw[List.take_length];exact CY (hE _)
 |x::r,i,h,hi=>by
  obtain⟨h1,h2,h3⟩:=drop_cons h
  have hL:L=L.take i++x::r:=by rw[←h,List.take_append_drop]
  have hx:x.Key∉(L.take i).map (·.Key):=by
   rw[hL,List.map_append,List.map_cons]at hn
   have:=(List.nodup_append.1 hn).2.2
   intro hm
   exact this _ hm _ (List.mem_cons_self) rfl
  rw[DY (hF i x _ h2),TA hx]
  have ht:L.take (i+1)=L.take i++[x]:=by rw[List.take_add_one,h2];rfl
  rw[←ht]
  exact Oh hl hn hF hE r (i+1) h3 (by omega)
theorem LN(c:AG)(hl:c.Peers.l.length≤100)(hn:(c.Peers.l.map (·.Key)).Nodup):Wn c=some (kp c.Peers.l):=by
 unfold Wn
 refine(congrArg (fun o:Option (List (LS×Aj)⊕List (LS×Aj))=>o.bind _) (Oh hl hn (fun i x m hx=> ?_) (fun m=> ?_) c.Peers.l 0 rfl (Nat.zero_le _))).trans rfl
 ·have hlt:=(List.getElem?_eq_some_iff.1 hx).1
  dsimp only
  rw[if_pos (by rw[decide_eq_true_eq];omega),BG,hx,Option.bind_some,show(i:Int)+1=((i+1:Nat):Int) by omega,CL (by omega)]
 ·dsimp only
  rw[if_neg (by rw[decide_eq_true_eq];omega)]
noncomputable def Wj(p2:List (LS×Aj))(p19:GS Aj)(p24:Int):Option (GS Aj):=
 if(decide (p24=(-1)))=true then
 some p19
 else
 (iter (fun(s42:(Int×Int×(GS Aj)))=>
 if(decide (s42.2.1<(s42.2.2.l.length:Int)))=true then
 (EM s42.2.2.l.length s42.2.1).bind fun x46=>
 (s42.2.2.l[x46]?.map fun x=>x).bind fun x47=>
 (let x53:=Fb (κ:=(Ar UInt8 32)) (ν:=Aj) Br p2 x47.Key
 some (!x53.isSome):Option Bool).bind (fun(p51:Bool)=>
 if(!p51)=true then
 (EM s42.2.2.l.length s42.1).bind fun x61=>
 (s42.2.2.l[x61]?.map fun y=>s42.2.2.set x61 x47).bind fun x62=>
 some (.inl (IntKind.i64.wrap (s42.1+1),IntKind.i64.wrap (s42.2.1+1),x62))
 else
 some (.inl (s42.1,IntKind.i64.wrap (s42.2.1+1),s42.2.2)))
 else
 some (.inr (.inl (s42.1,s42.2.2)))) (p24,IntKind.i64.wrap (p24+1),p19)).bind (Sum.elim (fun(p43:(Int×(GS Aj)))=>
 (Se Ac.z p43.2 p43.1).bind fun x66=>
 (XM x66 none (some p43.1)).bind fun x67=>
 some x67) some)
noncomputable def T6(a0:AG)(p2:List (LS×Aj)):Option (GS Aj):=
 ((if a0.Peers.isN=true then
 some .nil
 else
 (MS 144 (GS.mk []) a0.Peers.l).bind fun x22=>
 some x22:Option (GS Aj)).bind (fun(p19:(GS Aj))=>
 (((iter (fun(s26:Int)=>
 if(decide (s26<(p19.l.length:Int)))=true then
 (EM p19.l.length s26).bind fun x29=>
 (p19.l[x29]?.map fun x=>x).bind fun x30=>
 (let x33:=Fb (κ:=(Ar UInt8 32)) (ν:=Aj) Br p2 x30.Key
 some (!x33.isSome):Option Bool).bind (fun(p31:Bool)=>
 if p31=true then
 (some s26).map fun r=> .inr (.inr r)
 else
 some (.inl (IntKind.i64.wrap (s26+1))))
 else
 some (.inr (.inl ()))) 0).bind (Sum.elim (fun(p27:Unit)=>
 some (-1)) some):Option Int).bind (fun(p24:Int)=>
 Wj p2 p19 p24):Option (GS Aj)).bind (fun(p23:(GS Aj))=>
 some p23)))
def Fh(q:Aj→Bool):Nat→List Aj→Option Nat
 |_,[]=>none
 |i,x::r=>if q x=true then some i else Fh q (i+1) r
theorem Mk{q:Aj→Bool}: ∀{l:List Aj} {i:Nat},Fh q i l=none→l.filter (fun x=> !q x)=l
 |[],_,_=>rfl
 |x::r,i,h=>by
  simp only[Fh]at h
  split at h
  ·cases h
  ·rename_i hq
   rw[List.filter_cons,if_pos (by simp[hq]),Mk h]
theorem Mj{q:Aj→Bool}{L:List Aj}: ∀{r:List Aj} {i j:Nat},L.drop i=r→(L.take i).filter (fun x=> !q x)=L.take i→Fh q i r=some j→j<L.length∧(L.take j).filter (fun x=> !q x)=L.take j∧ ∃x,L[j]? =some x∧q x=true
 |[],_,_,_,_,h=>by cases h
 |x::r,i,j,hd,ht,h=>by
  obtain⟨h1,h2,h3⟩:=drop_cons hd
  simp only[Fh]at h
  split at h
  ·rename_i hq
   cases h
   exact⟨h1,ht,x,h2,hq⟩
  ·rename_i hq
   refine Mj h3 ?_ h
   rw[List.take_add_one,h2,List.filter_append,ht]
   show L.take i++List.filter _ [x]=_
   rw[List.filter_cons,if_pos (by simp[hq])];rfl
theorem Ks{L:List Aj}{q:Aj→Bool}{F:Int→Option (Int⊕(Unit⊕Int))}
  (hF: ∀(i:Nat) (x:Aj),L[i]? =some x→F (i:Int)=if q x=true then some (.inr (.inr (i:Int)))else some (.inl ((i+1:Nat):Int))) (hE:F (L.length:Int)=some (.inr (.inl ()))):
  ∀(r:List Aj) (i:Nat),L.drop i=r→i≤L.length→iter F (i:Int)=some (match Fh q i r with|some j=> .inr (j:Int)|none=> .inl ())
 |[],i,h,hi=>by
  obtain rfl:=drop_nil h hi
  exact CY hE
 |x::r,i,h,hi=>by
  obtain⟨h1,h2,h3⟩:=drop_cons h
  have hs:=hF i x h2
  simp only[Fh]
  by_cases hq:q x=true
  ·rw[if_pos hq]at hs ⊢;exact CY hs
  ·rw[if_neg hq]at hs ⊢
   rw[DY hs]
   exact Ks hF hE r (i+1) h3 (by omega)
theorem Ov{α:Type}: ∀(g:GS α) (i:Nat) (x:α),(g.set i x).l=g.l.set i x
 | .nil,_,_=>rfl
 | .mk _,_,_=>rfl
theorem Ji{L:List Aj}{q:Aj→Bool}{F:Int×Int×GS Aj→Option ((Int×Int×GS Aj)⊕((Int×GS Aj)⊕GS Aj))}
  (hF: ∀(i j:Nat) (x:Aj) (g:GS Aj),g.l.length=L.length→g.l[j]? =some x→i<L.length→F ((i:Int),(j:Int),g)=if q x=true then some (.inl ((i:Int),((j+1:Nat):Int),g))else some (.inl (((i+1:Nat):Int),((j+1:Nat):Int),g.set i x)))
  (hE: ∀i g,g.l.length=L.length→F (i,(L.length:Int),g)=some (.inr (.inl (i,g)))):
  ∀(r:List Aj) (i j:Nat) (g:GS Aj),L.drop j=r→j≤L.length→i<j→g.l.length=L.length→g.l.take i=(L.take j).filter (fun x=> !q x)→g.l.drop j=L.drop j→
   ∃(i':Nat) (g':GS Aj),iter F ((i:Int),(j:Int),g)=some (.inl ((i':Int),g'))∧i'≤g'.l.length∧g'.l.take i'=L.filter (fun x=> !q x)∧g'.l.length=L.length
 |[],i,j,g,h,hj,hij,hg,ht,hd=>by
  obtain rfl:=drop_nil h hj
  rw[List.take_length]at ht
  exact⟨i,g,CY (hE _ _ hg),by omega,ht,hg⟩
 |x::r,i,j,g,h,hj,hij,hg,ht,hd=>by
  obtain⟨h1,h2,h3⟩:=drop_cons h
  have hgj:g.l[j]? =some x:=by
   have:=drop_cons (hd.trans h);exact this.2.1
  have hs:=hF i j x g hg hgj (by omega)
  by_cases hq:q x=true
  ·rw[if_pos hq]at hs
   rw[DY hs]
   refine Ji hF hE r i (j+1) g h3 (by omega) (by omega) hg ?_ ?_
   ·rw[List.take_add_one,h2,List.filter_append,ht]
    show _=_++List.filter _ [x]
    rw[List.filter_cons,if_neg (by simp[hq])];simp
   ·rw[←List.drop_drop,hd,List.drop_drop]
  ·rw[if_neg hq]at hs
   rw[DY hs]
   refine Ji hF hE r (i+1) (j+1) (g.set i x) h3 (by omega) (by omega) (by rw[Ov,List.length_set,hg]) ?_ ?_
   ·rw[Ov,List.take_add_one,List.getElem?_set_self (by omega),List.take_set_of_le (Nat.le_refl i),ht,List.take_add_one (l:=L),h2,List.filter_append]
    show _++[x]=_++List.filter _ [x]
    rw[List.filter_cons,if_pos (by simp[hq])];rfl
   ·rw[Ov,List.drop_set_of_lt (by omega),←List.drop_drop,hd,List.drop_drop]
theorem UD(g:GS Aj)(hl:g.l.length≤1000): ∃g',(if g.isN=true then some .nil else(MS 144 (GS.mk []) g.l).bind fun x22=>some x22:Option (GS Aj))=some g'∧g'.l=g.l:=by
 cases g with
 |nil=>exact⟨.nil,rfl,rfl⟩
 |mk l=>
  have hl:l.length≤1000:=hl
  refine⟨.mk ([]++l),?_,rfl⟩
  show((MS 144 (GS.mk []) l).bind fun x22=>some x22)=_
  unfold MS
  rw[if_pos (by unfold GH;simp[GS.l];omega)]
  rfl
theorem Nh(c:AG)(A:List Aj)(hl:c.Peers.l.length≤1000): ∃g,T6 c (kp A)=some g∧g.l=c.Peers.l.filter fun p=>(H7 A p.Key).isSome:=by
 obtain⟨g,h1,h2⟩:=UD c.Peers hl
 unfold T6
 rw[h1,Option.bind_some,←h2]
 have hl:g.l.length≤1000:=by rw[h2];exact hl
 have hf:(fun p:Aj=>(H7 A p.Key).isSome)=fun p=> !(!(H7 A p.Key).isSome):=by funext p;rw[Bool.not_not]
 rw[hf]
 generalize hL:g.l=L at hl ⊢
 have hi:=Ks (L:=L) (q:=fun p=> !(H7 A p.Key).isSome) (F:=fun(s26:Int)=>
  if(decide (s26<(L.length:Int)))=true then
  (EM L.length s26).bind fun x29=>
  (L[x29]?.map fun x=>x).bind fun x30=>
  (let x33:=Fb (κ:=(Ar UInt8 32)) (ν:=Aj) Br (kp A) x30.Key
  some (!x33.isSome):Option Bool).bind (fun(p31:Bool)=>
  if p31=true then(some s26).map fun r=> .inr (.inr r)
  else some (.inl (IntKind.i64.wrap (s26+1))))
  else some (.inr (.inl ()))) (fun i x hx=>by
  have hlt:=(List.getElem?_eq_some_iff.1 hx).1
  dsimp only
  rw[if_pos (by rw[decide_eq_true_eq];omega),FQ hlt,Option.bind_some,hx]
  show(if(!(Fb Br (kp A) x.Key).isSome)=true then _ else _)=_
  rw[Jy,show(i:Int)+1=((i+1:Nat):Int) by omega,CL (by omega)];rfl)
  (by dsimp only;rw[if_neg (by rw[decide_eq_true_eq];omega)]) L 0 rfl (Nat.zero_le _)
 suffices hh: ∃g',(((some (match Fh (fun p=> !(H7 A p.Key).isSome) 0 L with|some j=> .inr (j:Int)|none=> .inl ()):Option (Unit⊕Int)).bind (Sum.elim (fun _=>some (-1)) some)).bind (Wj (kp A) g)).bind (fun p23=>some p23)=some g'∧g'.l=L.filter fun p=> !(!(H7 A p.Key).isSome) by
  obtain⟨g',e1,e2⟩:=hh
  refine⟨g',?_,e2⟩
  exact(congrArg (fun o:Option (Unit⊕Int)=>((o.bind (Sum.elim (fun _=>some (-1)) some)).bind (Wj (kp A) g)).bind fun p23=>some p23) hi).trans e1
 cases hfi:Fh (fun p=> !(H7 A p.Key).isSome) 0 L with
 |none=>exact⟨g,rfl,by rw[hL];exact(Mk hfi).symm⟩
 |some j=>
  obtain⟨j1,j2,x,j3,j4⟩:=Mj (L:=L) rfl rfl hfi
  have hneg: ¬((j:Int)= -1):=by omega
  obtain⟨i',g',d1,d2,d3,d4⟩:=Ji (L:=L) (q:=fun p=> !(H7 A p.Key).isSome) (F:=fun(s42:(Int×Int×(GS Aj)))=>
   if(decide (s42.2.1<(s42.2.2.l.length:Int)))=true then
   (EM s42.2.2.l.length s42.2.1).bind fun x46=>
   (s42.2.2.l[x46]?.map fun x=>x).bind fun x47=>
   (let x53:=Fb (κ:=(Ar UInt8 32)) (ν:=Aj) Br (kp A) x47.Key
   some (!x53.isSome):Option Bool).bind (fun(p51:Bool)=>
   if(!p51)=true then
   (EM s42.2.2.l.length s42.1).bind fun x61=>
   (s42.2.2.l[x61]?.map fun y=>s42.2.2.set x61 x47).bind fun x62=>
   some (.inl (IntKind.i64.wrap (s42.1+1),IntKind.i64.wrap (s42.2.1+1),x62))
   else some (.inl (s42.1,IntKind.i64.wrap (s42.2.1+1),s42.2.2)))
   else some (.inr (.inl (s42.1,s42.2.2)))) (fun i k y g0 hg hy hi0=>by
   have hlt:=(List.getElem?_eq_some_iff.1 hy).1
   dsimp only
   rw[if_pos (by rw[decide_eq_true_eq];omega),FQ hlt,Option.bind_some,hy]
   show(if(!(!(Fb Br (kp A) y.Key).isSome))=true then _ else _)=_
   rw[Jy,show(k:Int)+1=((k+1:Nat):Int) by omega,CL (by omega),show(i:Int)+1=((i+1:Nat):Int) by omega,CL (by omega)]
   cases (H7 A y.Key).isSome with
   |false=>rfl
   |true=>
    rw[if_pos (by rfl),FQ (by omega),Option.bind_some,List.getElem?_eq_getElem (by omega)];rfl)
   (fun i g0 hg=>by dsimp only;rw[if_neg (by rw[decide_eq_true_eq];omega)]) (L.drop (j+1)) j (j+1) g rfl (by omega) (by omega) (by rw[hL]) (by
    rw[hL,List.take_add_one,j3,List.filter_append,j2]
    show _=_++List.filter _ [x]
    rw[List.filter_cons,if_neg (by simp[j4])];simp) (by rw[hL])
  have hw:IntKind.i64.wrap ((j:Int)+1)=((j+1:Nat):Int):=by rw[show(j:Int)+1=((j+1:Nat):Int) by omega,CL (by omega)]
  refine⟨.mk (L.filter fun p=> !(!(H7 A p.Key).isSome)),?_,rfl⟩
  show((Wj (kp A) g (j:Int)).bind _)=_
  unfold Wj
  rw[if_neg (by rw[decide_eq_true_eq];exact hneg),hw]
  refine(congrArg (fun o:Option ((Int×GS Aj)⊕GS Aj)=>(o.bind _).bind _) d1).trans ?_
  show(((Se Ac.z g' (i':Int)).bind fun x66=>(XM x66 none (some (i':Int))).bind fun x67=>some x67).bind _)=_
  have hc:Se Ac.z g' (i':Int)=some (.mk (g'.l.take i'++List.replicate (g'.l.length-i') zP)):=by
   cases g' with
   |nil=>exact absurd d4 (by show¬(0=L.length);omega)
   |mk l=>
    have d2:i'≤l.length:=d2
    exact if_pos (show(0:Int)≤(i':Int)∧(i':Int)≤(l.length:Int)from⟨by omega,by omega⟩)
  have hs:XM (GS.mk (g'.l.take i'++List.replicate (g'.l.length-i') zP)) none (some (i':Int))=some (GS.mk (L.filter fun p=> !(!(H7 A p.Key).isSome))):=by
   rw[Yb (by rw[List.length_append,List.length_replicate,List.length_take];omega),List.take_append_of_le_length (by rw[List.length_take];omega),List.take_take,Nat.min_self,d3]
  rw[hc,Option.bind_some]
  exact(congrArg (fun o:Option (GS Aj)=>(o.bind fun x67=>some x67).bind fun p23=>some p23) hs).trans rfl
end Go.Proofs.Ytapafbjgdfgodaa.Am
namespace Go.Proofs.Ytapafbjgdfgodaa.Am
def IA:List Aj→List Aj→Bool
 |[],_=>true
 |_::_,[]=>false
 |x::l,y::B=>(decide (y.Key=x.Key)&& !(!decide (x.End=Lu)&&decide (y.End=Lu)))&&IA l B
def IC(A B:List Aj):List Aj:=A.filter fun p=>(H7 B p.Key).isSome
theorem LF(x y:Aj)(l B:List Aj):IA (x::l) (y::B)=((decide (y.Key=x.Key)&& !(!decide (x.End=Lu)&&decide (y.End=Lu)))&&IA l B):=rfl
theorem RA: ∀{l B:List Aj},IA l B=true→l.length≤B.length
 |[],_,_=>Nat.zero_le _
 |_::_,[],h=>by cases h
 |x::l,y::B,h=>by
  simp only[IA,Bool.and_eq_true]at h
  have:=RA h.2
  simp only[List.length_cons];omega
theorem Ps{l B:List Aj}{F:Int→Option (Int⊕(Unit⊕Bool))}(hl:l.length≤B.length)
  (hF: ∀(i:Nat) (x y:Aj),l[i]? =some x→B[i]? =some y→F (i:Int)=if(!decide (y.Key=x.Key)||(!decide (x.End=Lu)&&decide (y.End=Lu)))=true then some (.inr (.inr false))else some (.inl ((i+1:Nat):Int)))
  (hE:F (l.length:Int)=some (.inr (.inl ()))): ∀(r:List Aj) (i:Nat),l.drop i=r→i≤l.length→iter F (i:Int)=some (if IA r (B.drop i)=true then .inl ()else .inr false)
 |[],i,h,hi=>by
  obtain rfl:=drop_nil h hi
  exact CY hE
 |x::r,i,h,hi=>by
  obtain⟨h1,h2,h3⟩:=drop_cons h
  have hb:i<B.length:=by omega
  obtain⟨y,hy⟩: ∃y,B[i]? =some y:=⟨_,List.getElem?_eq_getElem hb⟩
  have hd:B.drop i=y::B.drop (i+1):=by
   rw[List.drop_eq_getElem_cons hb];congr 1;rw[List.getElem?_eq_getElem hb]at hy;exact Option.some.inj hy
  have hs:=hF i x y h2 hy
  rw[hd,LF]
  by_cases hc:(!decide (y.Key=x.Key)||(!decide (x.End=Lu)&&decide (y.End=Lu)))=true
  ·rw[if_pos hc]at hs
   rw[CY hs]
   have:(decide (y.Key=x.Key)&& !(!decide (x.End=Lu)&&decide (y.End=Lu)))=false:=by
    revert hc;cases decide (y.Key=x.Key)<;>cases (!decide (x.End=Lu)&&decide (y.End=Lu))<;>simp
   rw[this];rfl
  ·rw[if_neg hc]at hs
   rw[DY hs,Ps hl hF hE r (i+1) h3 (by omega)]
   have:(decide (y.Key=x.Key)&& !(!decide (x.End=Lu)&&decide (y.End=Lu)))=true:=by
    revert hc;cases decide (y.Key=x.Key)<;>cases (!decide (x.End=Lu)&&decide (y.End=Lu))<;>simp
   rw[this,Bool.true_and]
def Pq(c:AG):Prop:=(c.Peers.l.map (·.Key)).Nodup
theorem VB:(⟨Ao.z,0⟩:AP)=Lu:=rfl
theorem KX(a b:AG)(ha:a.Peers.l.length≤100)(hb:b.Peers.l.length≤100)(nb:Pq b):E7 a b=some (IA (IC a.Peers.l b.Peers.l) b.Peers.l):=by
 unfold E7
 refine(congrArg (fun o:Option (List (LS×Aj))=>o.bind _) (LN b hb nb)).trans ?_
 obtain⟨g,h1,h2⟩:=Nh a b.Peers.l (by omega)
 refine(congrArg (fun o:Option (GS Aj)=>o.bind _) h1).trans ?_
 have hg:g.l=IC a.Peers.l b.Peers.l:=h2
 rw[←hg]
 have hgl:g.l.length≤100:=by rw[hg];exact Nat.le_trans (List.length_filter_le _ _) ha
 show(if decide ((b.Peers.l.length:Int)<(g.l.length:Int))=true then some false else _)=_
 by_cases hlen:b.Peers.l.length<g.l.length
 ·rw[if_pos (by rw[decide_eq_true_eq];omega)]
  cases hgr:IA g.l b.Peers.l with
  |false=>rfl
  |true=>exact absurd (RA hgr) (by omega)
 ·rw[if_neg (by rw[decide_eq_true_eq];omega)]
  refine(congrArg (fun o:Option (Unit⊕Bool)=>o.bind _) (Ps (l:=g.l) (B:=b.Peers.l) (by omega) ?_ ?_ g.l 0 rfl (Nat.zero_le _))).trans ?_
  ·intro i x y hx hy
   have hlt:=(List.getElem?_eq_some_iff.1 hx).1
   rw[if_pos (by rw[decide_eq_true_eq];omega),BG,hx,Option.bind_some,BG,hy,Option.bind_some,MC,J0,Option.bind_some,Option.bind_some,J0,VB,show(i:Int)+1=((i+1:Nat):Int) by omega,CL (by omega)]
   cases decide (y.Key=x.Key)<;>cases decide (x.End=Lu)<;>cases decide (y.End=Lu)<;>rfl
  ·rw[if_neg (by rw[decide_eq_true_eq];omega)]
  ·rw[List.drop_zero]
   cases IA g.l b.Peers.l<;>rfl
def X7(l:List Aj)(k:LS):Option Nat:=Fh (fun p=>decide (p.Key=k)) 0 l
def X6(l:List Aj)(k:LS):Int:=match X7 l k with
 |some j=>(j:Int)
 |none=> -1
theorem Ok{l:List Aj}{k:LS}(h:X7 l k=none):X6 l k= -1:=by unfold X6;rw[h]
theorem Lm{l:List Aj}{k:LS}{j:Nat}(h:X7 l k=some j):X6 l k=(j:Int):=by unfold X6;rw[h]
theorem Nq(c:AG)(k:LS)(hl:c.Peers.l.length≤100):Kk c k=some (X6 c.Peers.l k):=by
 unfold Kk
 refine(congrArg (fun o:Option (Unit⊕Int)=>o.bind _) (Ks (L:=c.Peers.l) (q:=fun p=>decide (p.Key=k)) ?_ ?_ c.Peers.l 0 rfl (Nat.zero_le _))).trans ?_
 ·intro i x hx
  have hlt:=(List.getElem?_eq_some_iff.1 hx).1
  rw[if_pos (by rw[decide_eq_true_eq];omega),BG,hx,Option.bind_some,MC,show(i:Int)+1=((i+1:Nat):Int) by omega,CL (by omega)]
  rfl
 ·rw[if_neg (by rw[decide_eq_true_eq];omega)]
 ·unfold X6 X7
  cases Fh (fun p=>decide (p.Key=k)) 0 c.Peers.l<;>rfl
theorem Ml{q:Aj→Bool}{L:List Aj}: ∀{r:List Aj} {i:Nat},L.drop i=r→(match Fh q i r with|some j=>r.find? q=L[j]? ∧(r.find? q).isSome=true|none=>r.find? q=none)
 |[],_,_=>rfl
 |x::r,i,h=>by
  obtain⟨h1,h2,h3⟩:=drop_cons h
  simp only[Fh]
  rw[List.find?_cons]
  by_cases hq:q x=true
  ·rw[if_pos hq,hq];exact⟨h2.symm,rfl⟩
  ·rw[if_neg hq,Bool.not_eq_true _ |>.mp hq]
   exact Ml h3
theorem Jm(l:List Aj)(k:LS):(X7 l k=none∧H7 l k=none)∨ ∃j y,X7 l k=some j∧l[j]? =some y∧H7 l k=some y∧y.Key=k:=by
 have h:=Ml (q:=fun p=>decide (p.Key=k)) (L:=l) (r:=l) (i:=0) rfl
 unfold X7 H7
 cases hf:Fh (fun p=>decide (p.Key=k)) 0 l with
 |none=>rw[hf]at h;exact .inl ⟨rfl,h⟩
 |some j=>
  rw[hf]at h
  obtain⟨y,hy⟩:=Option.isSome_iff_exists.1 h.2
  exact .inr ⟨j,y,rfl,by rw[←h.1,hy],hy,by simpa using List.find?_some hy⟩
theorem Rh{l:List Aj}(hn:(l.map (·.Key)).Nodup){i j:Nat}{x y:Aj}(hx:l[i]? =some x)(hy:l[j]? =some y)(h:x.Key=y.Key):i=j:=by
 obtain⟨hi,rfl⟩:=List.getElem?_eq_some_iff.1 hx
 obtain⟨hj,rfl⟩:=List.getElem?_eq_some_iff.1 hy
 have:=(List.getElem_inj (xs:=l.map (·.Key)) (i:=i) (j:=j) (h₀:=by simpa using hi) (h₁:=by simpa using hj) hn).1 (by simpa using h)
 exact this
theorem Kv{A B:List Aj}(hn:(B.map (·.Key)).Nodup)(hA:A.length≤100){F:Int×Int→Option ((Int×Int)⊕(Unit⊕Bool))}
  (hN: ∀(i n:Nat) (x:Aj),A[i]? =some x→n≤1000→X7 B x.Key=none→F ((n:Int),(i:Int))=some (.inl ((n:Int),((i+1:Nat):Int))))
  (hS: ∀(i n j:Nat) (x y:Aj),A[i]? =some x→n≤1000→X7 B x.Key=some j→B[j]? =some y→F ((n:Int),(i:Int))=if(!decide (j=n)||(!decide (x.End=Lu)&&decide (y.End=Lu)))=true then some (.inr (.inr false))else some (.inl (((n+1:Nat):Int),((i+1:Nat):Int))))
  (hE: ∀n,F (n,(A.length:Int))=some (.inr (.inl ()))): ∀(r:List Aj) (i n:Nat),A.drop i=r→i≤A.length→n≤i→iter F ((n:Int),(i:Int))=some (if IA (IC r B) (B.drop n)=true then .inl ()else .inr false)
 |[],i,n,h,hi,hni=>by
  obtain rfl:=drop_nil h hi
  exact CY (hE _)
 |x::r,i,n,h,hi,hni=>by
  obtain⟨h1,h2,h3⟩:=drop_cons h
  rcases Jm B x.Key with ⟨e1,e2⟩|⟨j,y,e1,e2,e3,e4⟩
  ·rw[DY (hN i n x h2 (by omega) e1),Kv hn hA hN hS hE r (i+1) n h3 (by omega) (by omega)]
   have:IC (x::r) B=IC r B:=by unfold IC;rw[List.filter_cons,if_neg (by simp[e2])]
   rw[this]
  ·have hs:=hS i n j x y h2 (by omega) e1 e2
   have hbo:IC (x::r) B=x::IC r B:=by unfold IC;rw[List.filter_cons,if_pos (by simp[e3])]
   rw[hbo]
   by_cases hnb:n<B.length
   ·have hd:B.drop n=B[n]::B.drop (n+1):=List.drop_eq_getElem_cons hnb
    rw[hd,LF]
    by_cases hj:j=n
    ·subst hj
     have hy:B[j]=y:=by rw[List.getElem?_eq_getElem hnb]at e2;exact Option.some.inj e2
     rw[hy,decide_eq_true e4,Bool.true_and]
     rw[decide_eq_true rfl]at hs
     cases hb:(!decide (x.End=Lu)&&decide (y.End=Lu))with
     |true=>
      rw[hb]at hs
      rw[CY hs];rfl
     |false=>
      rw[hb]at hs
      rw[DY hs,Kv hn hA hN hS hE r (i+1) (j+1) h3 (by omega) (by omega)];rfl
    ·rw[decide_eq_false hj]at hs
     have hk: ¬B[n].Key=x.Key:=fun e=>hj (Rh hn e2 (List.getElem?_eq_getElem hnb) (e4.trans e.symm))
     rw[decide_eq_false hk,CY hs];rfl
   ·have hj:j<B.length:=(List.getElem?_eq_some_iff.1 e2).1
    rw[decide_eq_false (by omega)]at hs
    rw[CY hs,List.drop_eq_nil_of_le (by omega)];rfl
theorem Pc(a b:AG)(ha:a.Peers.l.length≤100)(hb:b.Peers.l.length≤100)(nb:Pq b):G0 a b=some (IA (IC a.Peers.l b.Peers.l) b.Peers.l):=by
 unfold G0
 refine(congrArg (fun o:Option (Unit⊕Bool)=>o.bind _) (Kv (A:=a.Peers.l) (B:=b.Peers.l) nb ha ?_ ?_ ?_ a.Peers.l 0 0 rfl (Nat.zero_le _) (Nat.le_refl _))).trans ?_
 ·intro i n x hx hn h
  have hlt:=(List.getElem?_eq_some_iff.1 hx).1
  dsimp only
  rw[if_pos (by rw[decide_eq_true_eq];omega),BG,hx,Option.bind_some,Nq b _ hb,Ok h,Option.bind_some,if_pos (by decide),show(i:Int)+1=((i+1:Nat):Int) by omega,CL (by omega)]
 ·intro i n j x y hx hn h hy
  have hlt:=(List.getElem?_eq_some_iff.1 hx).1
  dsimp only
  rw[if_pos (by rw[decide_eq_true_eq];omega),BG,hx,Option.bind_some,Nq b _ hb,Lm h,Option.bind_some]
  have hj0: ¬((j:Int)<0):=by omega
  rw[if_neg (by rw[decide_eq_true_eq];exact hj0),show(i:Int)+1=((i+1:Nat):Int) by omega,CL (by omega),show(n:Int)+1=((n+1:Nat):Int) by omega,CL (by omega),Option.bind_some,Sd,BG,hy,Option.bind_some,Sd,VB]
  have hd:decide ((j:Int)=(n:Int))=decide (j=n):=decide_eq_decide.2 (by omega)
  rw[hd]
  cases decide (j=n)<;>cases decide (x.End=Lu)<;>cases decide (y.End=Lu)<;>rfl
 ·intro n
  dsimp only
  rw[if_neg (by rw[decide_eq_true_eq];omega)]
 ·rw[List.drop_zero]
  cases IA (IC a.Peers.l b.Peers.l) b.Peers.l<;>rfl
theorem Mp{α:Type}{bytes:Nat}{l:List α}{x:α}(h:(l.length+1)*bytes≤GH):MS bytes (JW l) [x]=some (JW (l++[x])):=by
 rw[QB (by rw[KR];exact h),KR,ND]
theorem ET{α γ ρ:Type}{L:List α}(f:α→List γ)(hf: ∀x,(f x).length≤1)(l0:List γ)(k0:Nat)(h0:l0.length≤k0){F:Int×GS γ→Option ((Int×GS γ)⊕(GS γ⊕ρ))}
  (hF: ∀(i:Nat) (x:α) (m:List γ),L[i]? =some x→m.length≤k0+i→F ((i:Int),JW m)=some (.inl (((i+1:Nat):Int),JW (m++f x)))) (hE: ∀g,F ((L.length:Int),g)=some (.inr (.inl g))):
  iter F (0,JW l0)=some (.inl (JW (l0++L.flatMap f))):=by
 have key: ∀(r:List α) (i:Nat) (m:List γ),L.drop i=r→i≤L.length→m.length≤k0+i→iter F ((i:Int),JW m)=some (.inl (JW (m++r.flatMap f))):=by
  intro r
  induction r with
  |nil=>
   intro i m h hi hm
   obtain rfl:=drop_nil h hi
   rw[CY (hE _)];simp
  |cons x r ih=>
   intro i m h hi hm
   obtain⟨h1,h2,h3⟩:=drop_cons h
   have:=hf x
   rw[DY (hF i x m h2 hm),ih (i+1) _ h3 (by omega) (by rw[List.length_append];omega),List.flatMap_cons,List.append_assoc]
 exact key L 0 l0 rfl (Nat.zero_le _) (by omega)
abbrev kZ:LS:=(A1 32 T.u8).z
def Q8(x:Aj):Ak:=⟨x.Key,true,false,false,kZ,false,Az.z,false,0,false, .nil⟩
def Ti(y:Aj):Ak:=⟨y.Key,false,true,false,kZ,false,Az.z,false,0,true, .nil⟩
def chg(x y:Aj)(fresh:Bool):Ak×Bool:=
 (⟨y.Key,false,!fresh,fresh|| !decide (x.Psk=y.Psk),if(fresh|| !decide (x.Psk=y.Psk))=true then y.Psk else kZ,!decide (x.End=y.End),if(!decide (x.End=y.End))=true then y.End else Az.z,
  fresh|| !decide (x.Keep=y.Keep),if(fresh|| !decide (x.Keep=y.Keep))=true then y.Keep else 0,false,if(!decide (x.Allowed.l=y.Allowed.l))=true then y.Allowed else .nil⟩,
  fresh||(!decide (x.Psk=y.Psk)||(!decide (x.End=y.End)||(!decide (x.Keep=y.Keep)|| !decide (x.Allowed.l=y.Allowed.l)))))
def Kj(B:List Aj)(x:Aj):List Ak:=if(H7 B x.Key).isSome=true then []else [Q8 x]
def IL(A:List Aj)(y:Aj):List Ak:=match H7 A y.Key with|some x=>if x.Allowed.l=y.Allowed.l then []else [Ti y]|none=>[]
def Ns(A:List Aj)(y:Aj):List Ak:=if(chg ((H7 A y.Key).getD zP) y (!(H7 A y.Key).isSome)).2=true then [(chg ((H7 A y.Key).getD zP) y (!(H7 A y.Key).isSome)).1]else []
def Ib(A B:List Aj):List Ak:=(A.flatMap (Kj B)++B.flatMap (IL A))++B.flatMap (Ns A)
def SA(a b:AG):Av:=
 ⟨!decide (a.Private=b.Private),if(!decide (a.Private=b.Private))=true then b.Private else kZ,!decide (a.Port=b.Port),if(!decide (a.Port=b.Port))=true then b.Port else 0,
  !decide ((a.Mark.toNat:Int)=(b.Mark.toNat:Int)),if(!decide ((a.Mark.toNat:Int)=(b.Mark.toNat:Int)))=true then b.Mark else 0,false,JW (Ib a.Peers.l b.Peers.l)⟩
theorem NR(g:GS Aw)(hl:g.l.length≤1000):Cp g=some g:=by
 unfold Cp
 cases g with
 |nil=>rfl
 |mk l=>
  have hl:l.length≤1000:=hl
  show((MS 32 (GS.mk []) l).bind fun x22=>some x22)=_
  unfold MS
  rw[if_pos (by unfold GH;simp[GS.l];omega)]
  rfl
theorem Tj(x y:Aj)(fresh:Bool)(hx:x.Allowed.l.length≤1000)(hy:y.Allowed.l.length≤1000):FI x y fresh=some (chg x y fresh):=by
 unfold FI chg
 rw[MC,Sd,Kc _ _ (by omega),NR _ hy]
 cases fresh<;>cases decide (x.Psk=y.Psk)<;>cases decide (x.End=y.End)<;>cases decide (x.Keep=y.Keep)<;>cases decide (x.Allowed.l=y.Allowed.l)<;>rfl
def QV(x:Aj):Ak:=⟨x.Key,false,false,true,x.Psk,!decide (x.End=Lu),x.End,true,x.Keep,true,x.Allowed⟩
def Yh(c:AG):Av:=⟨true,c.Private,true,c.Port,true,c.Mark,true,JW (c.Peers.l.flatMap fun x=>[QV x])⟩
theorem PF(c:AG)(hc:EJ c):Fc c=some (Yh c):=by
 have hl:=hc.1
 unfold Fc
 refine(congrArg (fun o:Option ((GS Ak)⊕Av)=>o.bind _) (ET (L:=c.Peers.l) (fun x=>[QV x]) (fun _=>Nat.le_refl _) [] 0 (Nat.le_refl _) ?_ ?_)).trans rfl
 ·intro i x m hx hm
  have hlt:=(List.getElem?_eq_some_iff.1 hx).1
  have hxl:=hc.2 x (List.mem_of_getElem? hx)
  dsimp only
  rw[if_pos (by rw[decide_eq_true_eq];omega),BG,hx,Option.bind_some,J0,Option.bind_some,NR _ (by omega),Option.bind_some]
  refine(congrArg (fun o:Option (GS Ak)=>o.bind _) (Mp (x:=QV x) (by unfold GH;omega))).trans ?_
  rw[Option.bind_some,show(i:Int)+1=((i+1:Nat):Int) by omega,CL (by omega)]
 ·intro g
  dsimp only
  rw[if_neg (by rw[decide_eq_true_eq];omega)]
theorem QW(c:AG)(hc:EJ c):FO c=some (Yh c):=by
 have hl:=hc.1
 unfold FO
 refine(congrArg (fun o:Option ((GS Ak)⊕Av)=>o.bind _) (ET (L:=c.Peers.l) (fun x=>[QV x]) (fun _=>Nat.le_refl _) [] 0 (Nat.le_refl _) ?_ ?_)).trans rfl
 ·intro i x m hx hm
  have hlt:=(List.getElem?_eq_some_iff.1 hx).1
  dsimp only
  rw[if_pos (by rw[decide_eq_true_eq];omega),BG,hx,Option.bind_some,Sd]
  refine(congrArg (fun o:Option (GS Ak)=>o.bind _) (Mp (x:=QV x) (by unfold GH;omega))).trans ?_
  rw[Option.bind_some,show(i:Int)+1=((i+1:Nat):Int) by omega,CL (by omega)]
 ·intro g
  dsimp only
  rw[if_neg (by rw[decide_eq_true_eq];omega)]
end Go.Proofs.Ytapafbjgdfgodaa.Am
