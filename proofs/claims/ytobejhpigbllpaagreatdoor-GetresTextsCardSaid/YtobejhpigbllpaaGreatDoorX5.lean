/-
  What functions compute, and that they do. Printed by mkwalk.py.
  All walks. Printed by mkwalk.py.
  Plain laws: addresses, prefixes, endpoints: which may be, which is ahead.
  Plain laws: what the functions that split a text come to.
  Plain laws: texts without blanks at their ends, letters made small.
  Plain laws: two loops side by side; a text's lines with and without an end.
  Plain laws: runes of a text; one of two bytes in a text.
  Plain laws: lines of pairs; the law PairlineLines.
  Plain laws: the text of lines; the laws LinesSplit and LinesJoin.
  Plain laws: blocks of pairs; the laws PairlineBlocks, PairlineReads, PairlineMany.
  Plain laws: a number's digits; the text of an error.
  Plain laws: a number's text.
  Plain laws: texts put together; bytes as digits of sixteen.
  Plain laws: addresses as texts.
  Plain laws: sixteen bytes as a text.
  Plain laws: endpoints and prefixes as texts; fields as pairs.
  Plain laws: fields as pairs.
-/
import Derived.Test.YtobejhpigbllpaaGreatDoorX4
section
set_option linter.unusedVariables false
set_option maxRecDepth 100000
set_option maxHeartbeats 4000000
namespace Go.Proofs.YtobejhpigbllpaaGreatDoor.Am
noncomputable def FK(a0:AM)(a1:AM):Option Bool:=(Ht a0 a1).bind fun x1=>some (decide (0≤x1))
noncomputable def MX(a:BS [Ax,Ax]):B6 tb EX [Ax,Ax] [T.b] a:=Ad<|Ai (A1 Hw)<|Ah<|Ab rfl<|Ab rfl<|Aa.op (A2 Qz (.cons (Ae rfl)<| .one (Ae rfl))) fun x1=>Ag (A4 rfl (Ae rfl) AJ) fun x2=>Ab rfl<|Ac<|Aa.ret (.one (AA rfl))
theorem NB:Spec tb CM [Ax,Ax] [T.b] (fun a=>FK a.1 a.2):=
 Spec.of Pd rfl rfl rfl MX
noncomputable def J7(a0:AM):Option (UInt32×UInt32):=(iter (fun(s1:(UInt32×Int))=>if(decide (s1.2<(a0.length:Int)))=true then let x5:=C8 ((s1.1.toNat:Int)*((16777619:UInt32).toNat:Int));(Fo a0 s1.2).bind fun x6=>let x8:=C8 ((x5.toNat:Int)+((C8 (x6.toNat:Int)).toNat:Int));some (.inl (x8,IntKind.i64.wrap (s1.2+1))) else some (.inr (.inl s1.1))) ((0:UInt32),0)).bind (Sum.elim (fun(p2:UInt32)=>(iter (fun(s11:(UInt32×UInt32×Int))=>if(decide (0<s11.2.2))=true then let x15:= !decide (IntKind.i64.wrap (JA .and .i64 s11.2.2 1)=0);(if x15=true then let x20:=C8 ((s11.1.toNat:Int)*(s11.2.1.toNat:Int));some (.inl x20) else some (.inl s11.1):Option (UInt32⊕_)).bind (Sum.elim (fun(p16:UInt32)=>let x18:=C8 ((s11.2.1.toNat:Int)*(s11.2.1.toNat:Int));(if((1:UInt64).toNat:Int)<0 then none else some (Int.fdiv s11.2.2 (2^(min ((1:UInt64).toNat:Int).toNat 64)))).bind fun x19=>some (.inl (p16,x18,x19))) some) else some (.inr (.inl s11.1))) ((1:UInt32),(16777619:UInt32),(a0.length:Int))).bind (Sum.elim (fun(p12:UInt32)=>some (p2,p12)) some)) some)
noncomputable def HX(a:BS [Ax]):B6 tb Cw [Ax] [T.u32,T.u32] a:=Ad<|Ai (A1 (DY 0 rfl))<|Ai (A1 (DY 0 rfl))<|Ah<|Ai (A1 (DY 0 rfl))<|Ah<|Ad<|Ai (A1 AJ)<|Ac<|A6<|Aa.loop (id:=0) (σ:=(UInt32×Int)) (τ:=UInt32) (fun s1=>⟨[(0, .val Ax a),(4, .val T.u32 s1.1),(5, .val (T.int .i64) s1.2)],[]⟩) (fun p2=>⟨[(0, .val Ax a),(4, .val T.u32 p2)],[]⟩) ((0:UInt32),0) sB (fun _=>rfl) (fun s1=>Ad<|Ad<|Ab rfl<|Ab rfl<|Ag (F3 (Ae rfl)) fun x3=>Ag (A4 rfl (Ae rfl) (Ae rfl)) fun x4=>Ac<|Aa.cond (Ae rfl) (Aa.skip<|Ah<|A6<|Ab rfl<|Ag (Hd (I:=IT.u32) (Ae rfl) (DY 16777619 rfl)) fun x5=>Ab rfl<|Ab rfl<|Aa.op (EA (Ae rfl) (Ae rfl)) fun x6=>Ag (DL (I:=IT.u8) (J:=IT.u32) rfl (Ae rfl)) fun x7=>Ag (Bt (I:=IT.u32) (Ae rfl) (Ae rfl)) fun x8=>Ab rfl<|AI<|Ac<|Ab rfl<|Ag (Bt (I:=(IT.int .i64)) (Ae rfl) AJ) fun x9=>Ab rfl<|Aa.next (x8,x9) sB) (AQ<|Bv s1.1 sB)) (fun p2=>AR<|Ah<|Ai (A1 (DY 1 rfl))<|Ai (A1 (DY 16777619 rfl))<|Ah<|Ad<|Ab rfl<|Ag (F3 (Ae rfl)) fun x10=>Ab rfl<|Ac<|A6<|Aa.loop (id:=2) (σ:=(UInt32×UInt32×Int)) (τ:=UInt32) (fun s11=>⟨[(4, .val T.u32 p2),(6, .val T.u32 s11.1),(7, .val T.u32 s11.2.1),(8, .val (T.int .i64) s11.2.2)],[]⟩) (fun p12=>⟨[(4, .val T.u32 p2),(6, .val T.u32 p12)],[]⟩) ((1:UInt32),(16777619:UInt32),x10) sB (fun _=>rfl) (fun s11=>Ad<|Ad<|Ab rfl<|Ag (A4 rfl (Ae rfl) AJ) fun x13=>Ac<|Aa.cond (Ae rfl) (Aa.skip<|Ah<|A6<|Ad<|Ad<|Ab rfl<|Ag (pX (I:=(IT.int .i64)) (Ae rfl) AJ) fun x14=>Ag (A4 rfl (Ae rfl) AJ) fun x15=>Ac<|Fi (τ:=UInt32) (fun p16=>⟨[(4, .val T.u32 p2),(6, .val T.u32 p16),(7, .val T.u32 s11.2.1),(8, .val (T.int .i64) s11.2.2)],[]⟩) (fun p16=>
 Ac<|Ab rfl<|Ab rfl<|Ag (Hd (I:=IT.u32) (Ae rfl) (Ae rfl)) fun x18=>Ab rfl<|AI<|Ac<|Ab rfl<|Aa.op (h_shr (J:=IT.u64) (Ae rfl) (Db 1 rfl)) fun x19=>Ab rfl<|Aa.next (p16,x18,x19) sB)<|Aa.cond (Ae rfl) (Ab rfl<|Ab rfl<|Ag (Hd (I:=IT.u32) (Ae rfl) (Ae rfl)) fun x20=>Ab rfl<|DW x20 sB) (Aa.skip<|DW s11.1 sB)) (AQ<|Bv s11.1 sB)) (fun p12=>AR<|Ah<|Ab rfl<|Ab rfl<|Ab rfl<|Ab rfl<|Ac<|Aa.ret (.cons (AA rfl)<| .one (AA rfl))))
theorem I2:Spec tb B3 [Ax] [T.u32,T.u32] (fun a=>J7 a):=
 Spec.of Jb rfl rfl rfl HX
noncomputable def NF(a:BS [Ax,Ax]):B6 tb C1 [Ax,Ax] [(T.int .i64)] a:=Ad<|Ai (A1 AJ)<|Ah<|Ab rfl<|Aa.op (Ik I2 (.one (Ae rfl))) fun x1=>Ab rfl<|An (Ci (Ae rfl) rfl) fun x2=>An (Ci (Ae rfl) rfl) fun x3=>Ab rfl<|Ab rfl<|Ah<|Ab rfl<|Ag (F3 (Ae rfl)) fun x4=>Ab rfl<|Ah<|Ai (A1 (DY 0 rfl))<|Ah<|Ad<|Ai (A1 AJ)<|Ac<|A6<|Aa.loop (id:=0) (σ:=(UInt32×Int)) (τ:=UInt32) (fun s5=>⟨[(0, .val Ax a.1),(1, .val Ax a.2),(5, .val T.u32 x2),(6, .val T.u32 x3),(7, .val (T.int .i64) x4),(8, .val T.u32 s5.1),(9, .val (T.int .i64) s5.2)],[]⟩) (fun p6=>⟨[(0, .val Ax a.1),(1, .val Ax a.2),(5, .val T.u32 x2),(6, .val T.u32 x3),(7, .val (T.int .i64) x4),(8, .val T.u32 p6)],[]⟩) ((0:UInt32),0) sB (fun _=>rfl) (fun s5=>Ad<|Ad<|Ab rfl<|Ab rfl<|Ag (A4 rfl (Ae rfl) (Ae rfl)) fun x7=>Ac<|Aa.cond (Ae rfl) (Aa.skip<|Ah<|A6<|Ab rfl<|Ag (Hd (I:=IT.u32) (Ae rfl) (DY 16777619 rfl)) fun x8=>Ab rfl<|Ab rfl<|Aa.op (EA (Ae rfl) (Ae rfl)) fun x9=>Ag (DL (I:=IT.u8) (J:=IT.u32) rfl (Ae rfl)) fun x10=>Ag (Bt (I:=IT.u32) (Ae rfl) (Ae rfl)) fun x11=>Ab rfl<|AI<|Ac<|Ab rfl<|Ag (Bt (I:=(IT.int .i64)) (Ae rfl) AJ) fun x12=>Ab rfl<|Aa.next (x11,x12) sB) (AQ<|Bv s5.1 sB)) (fun p6=>AR<|Ah<|Ad<|Ab rfl<|Ab rfl<|Ag (ER (I:=IT.u32) rfl (Ae rfl) (Ae rfl)) fun x13=>Ab rfl<|Aa.and 5 rfl rfl rfl (AP (A1 (Ae rfl))<|AP (A1 (Ae rfl))<|Bj.op (UE (Ae rfl) .none (.some (Ae rfl))) fun x14=>AP (A1 (Ae rfl))<|Bf (MG (Ae rfl) (Ae rfl)) fun x15=>Bj.nil (Ae rfl)) fun x16=>Ac<|Aa.cond (Ae rfl) (Ad<|Ai (A1 AJ)<|Ac<|Aa.ret (.one (AA rfl))) (Aa.skip<|Ah<|Ad<|Ab rfl<|
 Ab rfl<|Ac<|A6<|Aa.loop (id:=2) (σ:=(UInt32×Int)) (τ:=Unit) (fun s17=>⟨[(0, .val Ax a.1),(1, .val Ax a.2),(5, .val T.u32 x2),(6, .val T.u32 x3),(7, .val (T.int .i64) x4),(8, .val T.u32 s17.1),(10, .val (T.int .i64) s17.2)],[]⟩) (fun p18=>⟨[],[]⟩) (p6,x4) sB (fun _=>rfl) (fun s17=>Ad<|Ad<|Ab rfl<|Ab rfl<|Ag (F3 (Ae rfl)) fun x19=>Ag (A4 rfl (Ae rfl) (Ae rfl)) fun x20=>Ac<|Aa.cond (Ae rfl) (Aa.skip<|Ac<|A6<|Ad<|Ab rfl<|Ag (Hd (I:=IT.u32) (Ae rfl) (DY 16777619 rfl)) fun x21=>Ab rfl<|Ah<|Ab rfl<|Ab rfl<|Ab rfl<|Aa.op (EA (Ae rfl) (Ae rfl)) fun x22=>Ag (DL (I:=IT.u8) (J:=IT.u32) rfl (Ae rfl)) fun x23=>Ag (Bt (I:=IT.u32) (Ae rfl) (Ae rfl)) fun x24=>Ab rfl<|Ah<|Ab rfl<|Ab rfl<|Ab rfl<|Ab rfl<|Ab rfl<|Ag (DZ (I:=(IT.int .i64)) (Ae rfl) (Ae rfl)) fun x25=>Aa.op (EA (Ae rfl) (Ae rfl)) fun x26=>Ag (DL (I:=IT.u8) (J:=IT.u32) rfl (Ae rfl)) fun x27=>Ag (Hd (I:=IT.u32) (Ae rfl) (Ae rfl)) fun x28=>Ag (DZ (I:=IT.u32) (Ae rfl) (Ae rfl)) fun x29=>Ab rfl<|Ah<|Ab rfl<|Ag (Bt (I:=(IT.int .i64)) (Ae rfl) AJ) fun x30=>Ab rfl<|Ah<|Ab rfl<|Ab rfl<|Ag (ER (I:=IT.u32) rfl (Ae rfl) (Ae rfl)) fun x31=>Ab rfl<|Aa.and 8 rfl rfl rfl (AP (A1 (Ae rfl))<|AP (A1 (Ae rfl))<|AP (A1 (Ae rfl))<|Bf (DZ (I:=(IT.int .i64)) (Ae rfl) (Ae rfl)) fun x32=>AP (A1 (Ae rfl))<|Bj.op (UE (Ae rfl) (.some (Ae rfl)) (.some (Ae rfl))) fun x33=>AP (A1 (Ae rfl))<|Bf (MG (Ae rfl) (Ae rfl)) fun x34=>Bj.nil (Ae rfl)) fun x35=>Ac<|Aa.cond (Ae rfl) (Ad<|Ab rfl<|Ab rfl<|Ag (DZ (I:=(IT.int .i64)) (Ae rfl) (Ae rfl)) fun x36=>Ab rfl<|Ac<|BA<|Aa.ret (.one (AA rfl))) (
 Aa.skip<|AI<|Aa.next (x29,x30) sB)) (AQ<|Bv () sB)) (fun p18=>AR<|Ah<|Ai (A1 AJ)<|Ac<|Aa.ret (.one (AA rfl)))))
noncomputable def EO(a0:AM)(a1:AM):Option Int:=(HZ (decide ((a1.length:Int)=0)) (some (decide (a1=a0)))).bind fun x4=>if x4=true then some 0 else if(decide ((a1.length:Int)=1))=true then (Fo a1 0).bind fun x6=>(CL a0 x6).bind fun x7=>some x7 else if(decide ((a0.length:Int)≤(a1.length:Int)))=true then some (-1) else none
noncomputable def JF(a:BS [Ax,Ax]):B6 tb Dl [Ax,Ax] [(T.int .i64)] a:=Ad<|Ai (A1 AJ)<|Ah<|Ab rfl<|Ag (F3 (Ae rfl)) fun x1=>Ab rfl<|Ah<|A6<|Ad<|Ab rfl<|Ag (A4 rfl (Ae rfl) AJ) fun x2=>Ab rfl<|Aa.or 3 rfl rfl rfl (AP (A1 (Ae rfl))<|AP (A1 (Ae rfl))<|Bf (MG (Ae rfl) (Ae rfl)) fun x3=>Bj.nil (Ae rfl)) fun x4=>Ab rfl<|Ac<|Aa.cond (Ae rfl) (Ad<|Ai (A1 AJ)<|Ac<|Aa.ret (.one (AA rfl))) (Ad<|Ab rfl<|Ag (A4 rfl (Ae rfl) AJ) fun x5=>Ab rfl<|Ac<|Aa.cond (Ae rfl) (Ad<|Ab rfl<|Ab rfl<|Aa.op (EA (Ae rfl) AJ) fun x6=>Aa.op (A2 Fa (.cons (Ae rfl)<| .one (Ae rfl))) fun x7=>Ab rfl<|Ac<|Aa.ret (.one (AA rfl))) (Ad<|Ab rfl<|Ab rfl<|Ag (F3 (Ae rfl)) fun x8=>Ag (A4 rfl (Ae rfl) (Ae rfl)) fun x9=>Ab rfl<|Ac<|Aa.cond (Ae rfl) (Ad<|Ai (A1 AJ)<|Ac<|Aa.ret (.one (AA rfl))) (Ad<|Ab rfl<|Aa.stop)))
theorem Kq:Spec tb BL [Ax,Ax] [(T.int .i64)] (fun a=>EO a.1 a.2):=
 Spec.of KK rfl rfl rfl JF
noncomputable def JZ(a0:AM)(a1:AM):Option Int:=(EO a0 a1).bind fun x1=>some x1
noncomputable def RT(a:BS [Ax,Ax]):B6 tb In [Ax,Ax] [(T.int .i64)] a:=Ad<|Ai (A1 AJ)<|Ah<|Ab rfl<|Ab rfl<|Aa.op (A2 Kq (.cons (Ae rfl)<| .one (Ae rfl))) fun x1=>Ab rfl<|Ac<|Aa.ret (.one (AA rfl))
theorem Tx:Spec tb ED [Ax,Ax] [(T.int .i64)] (fun a=>JZ a.1 a.2):=
 Spec.of V4 rfl rfl rfl RT
noncomputable def Hu(a0:AM)(a1:AM):Option Bool:=(JZ a0 a1).bind fun x1=>some (decide (0≤x1))
noncomputable def Pr(a:BS [Ax,Ax]):B6 tb G5 [Ax,Ax] [T.b] a:=Ad<|Ai (A1 Hw)<|Ah<|Ab rfl<|Ab rfl<|Aa.op (A2 Tx (.cons (Ae rfl)<| .one (Ae rfl))) fun x1=>Ag (A4 rfl (Ae rfl) AJ) fun x2=>Ab rfl<|Ac<|Aa.ret (.one (AA rfl))
theorem Q0:Spec tb DE [Ax,Ax] [T.b] (fun a=>Hu a.1 a.2):=
 Spec.of RC rfl rfl rfl Pr
noncomputable def HY(a0:A7):Option (AM×Int):=(HZ (decide (a0.Key=[])) ((FK a0.Key [61,10]).bind fun x4=>some x4)).bind fun x5=>(HZ x5 ((Hu a0.Value [10]).bind fun x7=>some x7)).bind fun x8=>if x8=true then some ([],5) else (if a0.Key.length+[61].length≤2*Be then some (a0.Key++[61])else none).bind fun x10=>(if x10.length+a0.Value.length≤2*Be then some (x10++a0.Value)else none).bind fun x12=>if(decide (512<(x12.length:Int)))=true then some ([],4) else some (x12,0)
noncomputable def RU(a:BS [Au]):B6 tb Io [Au] [Ax,(T.int .i64)] a:=Ad<|Al (Bq (t:=Au) 1 rfl rfl (Ae rfl)) fun _=>Ai (A1 Ds)<|Ai (A1 AJ)<|Ah<|Ad<|Ai (AE (Ae rfl))<|An (A3 (t:=Au) (u:=Ax) (Ae rfl) rfl rfl C0 rfl rfl) fun x1=>Ag (MG (Ae rfl) Ds) fun x2=>Ab rfl<|Aa.or 3 rfl rfl rfl (AP (AE (Ae rfl))<|Ca (A3 (t:=Au) (u:=Ax) (Ae rfl) rfl rfl C0 rfl rfl) fun x3=>Bj.op (A2 NB (.cons (Ae rfl)<| .one Ds)) fun x4=>Bj.nil (Ae rfl)) fun x5=>Ab rfl<|Aa.or 3 rfl rfl rfl (AP (AE (Ae rfl))<|Ca (A3 (t:=Au) (u:=Ax) (Ae rfl) rfl rfl C3 rfl rfl) fun x6=>Bj.op (A2 Q0 (.cons (Ae rfl)<| .one Ds)) fun x7=>Bj.nil (Ae rfl)) fun x8=>Ac<|Aa.cond (Ae rfl) (Ad<|Ai (A1 Ds)<|Ai (A1 AJ)<|Ac<|Aa.ret (.cons (AA rfl)<| .one (AA rfl))) (Aa.skip<|Ah<|Ai (AE (Ae rfl))<|An (A3 (t:=Au) (u:=Ax) (Ae rfl) rfl rfl C0 rfl rfl) fun x9=>Aa.op (BR (Ae rfl) Ds) fun x10=>Ai (AE (Ae rfl))<|An (A3 (t:=Au) (u:=Ax) (Ae rfl) rfl rfl C3 rfl rfl) fun x11=>Aa.op (BR (Ae rfl) (Ae rfl)) fun x12=>Ab rfl<|Ah<|Ad<|Ab rfl<|Ag (F3 (Ae rfl)) fun x13=>Ag (A4 rfl (Ae rfl) AJ) fun x14=>Ac<|Aa.cond (Ae rfl) (Ad<|Ai (A1 Ds)<|Ai (A1 AJ)<|Ac<|Aa.ret (.cons (AA rfl)<| .one (AA rfl))) (Aa.skip<|Ah<|Ab rfl<|Ab rfl<|Ai (A1 AJ)<|Ac<|Aa.ret (.cons (AA rfl)<| .one (AA rfl))))
theorem Ty:Spec tb EE [Au] [Ax,(T.int .i64)] (fun a=>HY a):=
 Spec.of V5 rfl rfl rfl RU
noncomputable def NW(a0:(GS AM)):Option AM:=(iter (fun(s3:(Int×AM))=>if(decide (s3.1<(a0.l.length:Int)))=true then (Fo a0.l s3.1).bind fun x6=>(LS s3.2 x6).bind fun x8=>(LS x8 [10]).bind fun x9=>some (.inl (IntKind.i64.wrap (s3.1+1),x9)) else some (.inr (.inl s3.2))) (0,[])).bind (Sum.elim (fun(p4:AM)=>(eI false p4).bind fun x11=>some x11) some)
noncomputable def W1(a:BS [(T.sl Ax)]):B6 tb Lo [(T.sl Ax)] [Ax] a:=Ad<|Ai (A1 Ds)<|Ah<|Al (oL 3 5 rfl rfl) fun x1=>Ah<|Ad<|Ab rfl<|Ag (Ez (Ae rfl)) fun x2=>Ai (A1 AJ)<|Ac<|A6<|Aa.loop (id:=0) (σ:=(Int×AM)) (τ:=AM) (fun s3=>⟨[(3, .own 3),(6, .val (T.sl Ax) a),(7, .val (T.int .i64) x2),(8, .val (T.int .i64) s3.1)],[(3, .dom (OG 107 5 false) s3.2)]⟩) (fun p4=>⟨[(3, .own 3)],[(3, .dom (OG 107 5 false) p4)]⟩) (0,x1) sB (fun _=>rfl) (fun s3=>Ad<|Ag (A4 rfl (Ae rfl) (Ae rfl)) fun x5=>Ah<|Aa.cond (Ae rfl) (Aa.skip<|Ah<|A6<|Ad<|Aa.op (FO rfl (Ae rfl) (Ae rfl)) fun x6=>An (Ja rfl rfl (Ae rfl)) fun x7=>Ab rfl<|Ah<|Ab rfl<|Cq (Ye Bx rfl Cf (Ae rfl) rfl (Ae rfl)) fun x8=>Ac<|Cq (Ye Bx rfl Cf (Ae rfl) rfl Ds) fun x9=>AI<|Ac<|Ag (Bt (I:=(IT.int .i64)) (Ae rfl) AJ) fun x10=>Ab rfl<|Aa.next (x10,x9) sB) (AQ<|Bv s3.2 sB)) (fun p4=>AR<|Ah<|Cq (oK ET (Ae rfl) rfl) fun x11=>Ab rfl<|Ac<|Aa.ret (.one (AA rfl)))
theorem Yo:Spec tb GJ [(T.sl Ax)] [Ax] (fun a=>NW a):=
 Spec.of dP rfl rfl rfl W1
noncomputable def Ei(a0:(GS A7)):Option (AM×Int):=if(decide (400<(a0.l.length:Int)))=true then some ([],4) else (iter (fun(s4:(Int×(GS AM)))=>if(decide (s4.1<(a0.l.length:Int)))=true then (Fo a0.l s4.1).bind fun x7=>(HY x7).bind fun x12=>if(!decide (x12.2=0))=true then (some ([],x12.2)).map fun r=> .inr (.inr r) else (Wc 16 s4.2 [x12.1]).bind fun x17=>some (.inl (IntKind.i64.wrap (s4.1+1),x17)) else some (.inr (.inl s4.2))) (0, .nil)).bind (Sum.elim (fun(p5:(GS AM))=>(Wc 16 p5 [[]]).bind fun x20=>(NW x20).bind fun x21=>some (x21,0)) some)
noncomputable def Rn(a:BS [(T.sl Au)]):B6 tb HJ [(T.sl Au)] [Ax,(T.int .i64)] a:=Ad<|Ai (A1 Ds)<|Ai (A1 AJ)<|Ah<|Ad<|Ab rfl<|Ag (Ez (Ae rfl)) fun x1=>Ag (A4 rfl (Ae rfl) AJ) fun x2=>Ac<|Aa.cond (Ae rfl) (Ad<|Ai (A1 Ds)<|Ai (A1 AJ)<|Ac<|Aa.ret (.cons (AA rfl)<| .one (AA rfl))) (Aa.skip<|Ah<|Ai (A1 (KE (t:=Ax)))<|Aa.turn (born (n:=4) (j:=1004) rfl rfl)<|Ah<|Ad<|Ab rfl<|Ag (Ez (Ae rfl)) fun x3=>Ai (A1 AJ)<|Ac<|A6<|Aa.loop (id:=0) (σ:=(Int×(GS AM))) (τ:=(GS AM)) (fun s4=>⟨[(4, .own 1004),(12, .val (T.sl Au) a),(13, .val (T.int .i64) x3),(14, .val (T.int .i64) s4.1)],[(1004, .row Ax s4.2)]⟩) (fun p5=>⟨[(4, .own 1004)],[(1004, .row Ax p5)]⟩) (0, .nil) sB (fun _=>rfl) (fun s4=>Ad<|Ag (A4 rfl (Ae rfl) (Ae rfl)) fun x6=>Ah<|Aa.cond (Ae rfl) (Aa.skip<|Ah<|A6<|Ad<|Aa.op (FO rfl (Ae rfl) (Ae rfl)) fun x7=>An (Ja rfl rfl (Ae rfl)) fun x8=>Al (BZ (t:=Au) 6 rfl rfl) fun x9=>Al (CV (Ae rfl) (Ae rfl) rfl rfl (Aw _) rfl) fun x10=>Ah<|An (A3 (t:=Au) (u:=Au) (Ae rfl) rfl rfl (Aw _) rfl rfl) fun x11=>Aa.op (Ik Ty (.one (Ae rfl))) fun x12=>Ab rfl<|An (Ci (Ae rfl) rfl) fun x13=>An (Ci (Ae rfl) rfl) fun x14=>Ab rfl<|Ab rfl<|Ah<|Ad<|Ab rfl<|Ag (A4 rfl (Ae rfl) AJ) fun x15=>Ac<|Aa.cond (Ae rfl) (Ad<|Ab rfl<|Ai (A1 Ds)<|Ab rfl<|Ac<|BA<|Aa.ret (.cons (AA rfl)<| .one (AA rfl))) (Aa.skip<|Ac<|Ab rfl<|Ab rfl<|Ag (Nt (t:=Ax) (n:=1) rfl rfl (.cons rfl (Ae rfl)<| .nil _)) fun x16=>Cq (N5 rfl (Ae rfl) rfl (TP (Ae rfl))) fun x17=>Ab rfl<|AI<|Ac<|Ag (Bt (I:=(IT.int .i64)) (Ae rfl) AJ) fun x18=>Ab rfl<|Aa.next (x18,x17) sB)) (
 AQ<|Bv s4.2 sB)) (fun p5=>AR<|Ah<|Ab rfl<|Ag (Nt (t:=Ax) (n:=1) rfl rfl (.cons rfl Ds<| .nil _)) fun x19=>Cq (N5 rfl (Ae rfl) rfl (TP (Ae rfl))) fun x20=>Aa.frzRow 1004 rfl rfl<|Aa.op (A2 Yo (.one (Ae rfl))) fun x21=>Ab rfl<|Ai (A1 AJ)<|Ac<|Aa.ret (.cons (AA rfl)<| .one (AA rfl))))
theorem LW:Spec tb DA [(T.sl Au)] [Ax,(T.int .i64)] (fun a=>Ei a):=
 Spec.of Ue rfl rfl rfl Rn
noncomputable def He(a0:B4):Option (AM×Int):=(JC a0).bind fun x2=>if(!x2)=true then some ([],1) else let x5:=(⟨1,a0.Private,0,Ao.z,Aj.z⟩:Ap);let x8:=(⟨2,(Ay 32 T.u8).z,IT.u64.ofI a0.Port,Ao.z,Aj.z⟩:Ap);let x11:=(⟨3,(Ay 32 T.u8).z,IT.u64.ofI (a0.Mark.toNat:Int),Ao.z,Aj.z⟩:Ap);(iter (fun(s15:(Int×(GS Ap)))=>if(decide (s15.1<(a0.Peers.l.length:Int)))=true then (Fo a0.Peers.l s15.1).bind fun x18=>(K4 x18).bind fun x23=>(Wc 112 s15.2 x23.l).bind fun x24=>some (.inl (IntKind.i64.wrap (s15.1+1),x24)) else some (.inr (.inl s15.2))) (0,(GS.mk [x5,x8,x11]))).bind (Sum.elim (fun(p16:(GS Ap))=>let x26:=(⟨16,(Ay 32 T.u8).z,0,Ao.z,Aj.z⟩:Ap);(Wc 112 p16 [x26]).bind fun x28=>(Gv x28).bind fun x29=>(Ei x29).bind fun x30=>some (x30.1,x30.2)) some)
noncomputable def Vj(a:BS [AD]):B6 tb Kk [AD] [Ax,(T.int .i64)] a:=Ad<|Al (Bq (t:=AD) 1 rfl rfl (Ae rfl)) fun _=>Ai (A1 Ds)<|Ai (A1 AJ)<|Ah<|Ad<|An (A3 (t:=AD) (u:=AD) (Ae rfl) rfl rfl (Aw _) rfl rfl) fun x1=>Aa.op (A2 Yl (.one (Ae rfl))) fun x2=>Ag (EQ (Ae rfl)) fun x3=>Ac<|Aa.cond (Ae rfl) (Ad<|Ai (A1 Ds)<|Ai (A1 AJ)<|Ac<|Aa.ret (.cons (AA rfl)<| .one (AA rfl))) (Aa.skip<|Ah<|Ai (AE (Ae rfl))<|An (A3 (t:=AD) (u:=(Ay 32 T.u8)) (Ae rfl) rfl rfl LO rfl rfl) fun x4=>Ag (Cy rfl rfl (.cons Az rfl AJ<| .cons Dr rfl (Ae rfl)<| .nil _)) fun x5=>Ai (AE (Ae rfl))<|An (A3 (t:=AD) (u:=(T.int .i64)) (Ae rfl) rfl rfl Iy rfl rfl) fun x6=>Ag (DL (I:=(IT.int .i64)) (J:=IT.u64) rfl (Ae rfl)) fun x7=>Ag (Cy rfl rfl (.cons Az rfl AJ<| .cons By rfl (Ae rfl)<| .nil _)) fun x8=>Ai (AE (Ae rfl))<|An (A3 (t:=AD) (u:=T.u32) (Ae rfl) rfl rfl OY rfl rfl) fun x9=>Ag (DL (I:=IT.u32) (J:=IT.u64) rfl (Ae rfl)) fun x10=>Ag (Cy rfl rfl (.cons Az rfl AJ<| .cons By rfl (Ae rfl)<| .nil _)) fun x11=>Al (qW (t:=Af) (n:=3) 1004 rfl rfl (.cons rfl (Ae rfl)<| .cons rfl (Ae rfl)<| .cons rfl (Ae rfl)<| .nil _) rfl) fun x12=>Ab rfl<|Ah<|Ad<|Ai (AE (Ae rfl))<|An (A3 (t:=AD) (u:=(T.sl A5)) (Ae rfl) rfl rfl BV rfl rfl) fun x13=>Ag (Ez (Ae rfl)) fun x14=>Ai (A1 AJ)<|Ac<|A6<|Aa.loop (id:=0) (σ:=(Int×(GS Ap))) (τ:=(GS Ap)) (fun s15=>⟨[(4, .own 1004),(23, .val (T.sl A5) x13),(24, .val (T.int .i64) x14),(25, .val (T.int .i64) s15.1)],[(1004, .row Af s15.2)]⟩) (fun p16=>⟨[(4, .own 1004)],[(1004, .row Af p16)]⟩) (0,(.mk x12)) sB (fun _=>rfl) (fun s15=>
 Ad<|Ag (A4 rfl (Ae rfl) (Ae rfl)) fun x17=>Ah<|Aa.cond (Ae rfl) (Aa.skip<|Ah<|A6<|Ad<|Aa.op (FO rfl (Ae rfl) (Ae rfl)) fun x18=>An (Ja rfl rfl (Ae rfl)) fun x19=>Al (BZ (t:=A5) 6 rfl rfl) fun x20=>Al (CV (Ae rfl) (Ae rfl) rfl rfl (Aw _) rfl) fun x21=>Ac<|Ab rfl<|An (A3 (t:=A5) (u:=A5) (Ae rfl) rfl rfl (Aw _) rfl rfl) fun x22=>Aa.op (A2 Wv (.one (Ae rfl))) fun x23=>Cq (N5 rfl (Ae rfl) rfl (TP (Ae rfl))) fun x24=>Ab rfl<|AI<|Ac<|Ag (Bt (I:=(IT.int .i64)) (Ae rfl) AJ) fun x25=>Ab rfl<|Aa.next (x25,x24) sB) (AQ<|Bv s15.2 sB)) (fun p16=>AR<|Ah<|Ab rfl<|Ag (Cy rfl rfl (.cons Az rfl AJ<| .nil _)) fun x26=>Ag (Nt (t:=Af) (n:=1) rfl rfl (.cons rfl (Ae rfl)<| .nil _)) fun x27=>Cq (N5 rfl (Ae rfl) rfl (TP (Ae rfl))) fun x28=>Aa.frzRow 1004 rfl rfl<|Aa.op (A2 OI (.one (Ae rfl))) fun x29=>Aa.op (Ik LW (.one (Ae rfl))) fun x30=>An (Ci (Ae rfl) rfl) fun x31=>An (Ci (Ae rfl) rfl) fun x32=>Ab rfl<|Ab rfl<|Ac<|Aa.ret (.cons (AA rfl)<| .one (AA rfl))))
theorem Pp:Spec tb ES [AD] [Ax,(T.int .i64)] (fun a=>He a):=
 Spec.of YV rfl rfl rfl Vj
noncomputable def Ni(a0:AM)(a1:UInt8):Option (GS AM):=(iter (fun(s1:(Int×Int×(GS AM)))=>if(decide (s1.2.1<(a0.length:Int)))=true then (Fo a0 s1.2.1).bind fun x5=>if(decide ((x5.toNat:Int)=(a1.toNat:Int)))=true then (UZ a0 (some s1.1) (some s1.2.1)).bind fun x7=>(Wc 16 s1.2.2 [x7]).bind fun x9=>some (.inl (IntKind.i64.wrap (s1.2.1+1),IntKind.i64.wrap (s1.2.1+1),x9)) else some (.inl (s1.1,IntKind.i64.wrap (s1.2.1+1),s1.2.2)) else some (.inr (.inl (s1.1,s1.2.2)))) (0,0, .nil)).bind (Sum.elim (fun(p2:(Int×(GS AM)))=>(UZ a0 (some p2.1) none).bind fun x13=>(Wc 16 p2.2 [x13]).bind fun x15=>some x15) some)
noncomputable def Y0(a:BS [Ax,T.u8]):B6 tb Mu [Ax,T.u8] [(T.sl Ax)] a:=Ad<|Ai (A1 (KE (t:=Ax)))<|Aa.turn (born (n:=4) (j:=1004) rfl rfl)<|Ah<|Ai (A1 AJ)<|Ah<|Ai (A1 (KE (t:=Ax)))<|Aa.turn (born (n:=6) (j:=2004) rfl rfl)<|Ah<|Ad<|Ai (A1 AJ)<|Ac<|A6<|Aa.loop (id:=0) (σ:=(Int×Int×(GS AM))) (τ:=(Int×(GS AM))) (fun s1=>⟨[(0, .val Ax a.1),(1, .val T.u8 a.2),(5, .val (T.int .i64) s1.1),(6, .own 2004),(7, .val (T.int .i64) s1.2.1)],[(2004, .row Ax s1.2.2)]⟩) (fun p2=>⟨[(0, .val Ax a.1),(5, .val (T.int .i64) p2.1),(6, .own 2004)],[(2004, .row Ax p2.2)]⟩) (0,0, .nil) sB (fun _=>rfl) (fun s1=>Ad<|Ad<|Ab rfl<|Ab rfl<|Ag (F3 (Ae rfl)) fun x3=>Ag (A4 rfl (Ae rfl) (Ae rfl)) fun x4=>Ac<|Aa.cond (Ae rfl) (Aa.skip<|Ah<|A6<|Ad<|Ab rfl<|Ab rfl<|Aa.op (EA (Ae rfl) (Ae rfl)) fun x5=>Ab rfl<|Ag (ER (I:=IT.u8) rfl (Ae rfl) (Ae rfl)) fun x6=>Ac<|Aa.cond (Ae rfl) (Ad<|Ab rfl<|Ab rfl<|Ab rfl<|Ab rfl<|Aa.op (UE (Ae rfl) (.some (Ae rfl)) (.some (Ae rfl))) fun x7=>Ag (Nt (t:=Ax) (n:=1) rfl rfl (.cons rfl (Ae rfl)<| .nil _)) fun x8=>Cq (N5 rfl (Ae rfl) rfl (TP (Ae rfl))) fun x9=>Ab rfl<|Ac<|Ab rfl<|Ag (Bt (I:=(IT.int .i64)) (Ae rfl) AJ) fun x10=>Ab rfl<|AI<|Ac<|Ab rfl<|Ag (Bt (I:=(IT.int .i64)) (Ae rfl) AJ) fun x11=>Ab rfl<|Aa.next (x10,x11,x9) sB) (Aa.skip<|AI<|Ac<|Ab rfl<|Ag (Bt (I:=(IT.int .i64)) (Ae rfl) AJ) fun x12=>Ab rfl<|Aa.next (s1.1,x12,s1.2.2) sB)) (AQ<|Bv (s1.1,s1.2.2) sB)) (fun p2=>AR<|Ah<|Ab rfl<|Ab rfl<|Ab rfl<|Aa.op (UE (Ae rfl) (.some (Ae rfl)) .none) fun x13=>Ag (Nt (t:=Ax) (n:=1) rfl rfl (.cons rfl (Ae rfl)<| .nil _)) fun x14=>
 Cq (N5 rfl (Ae rfl) rfl (TP (Ae rfl))) fun x15=>Ab rfl<|Ac<|Aa.frzRow 2004 rfl rfl<|Aa.ret (.one (AA rfl)))
theorem RQ:Spec tb Gz [Ax,T.u8] [(T.sl Ax)] (fun a=>Ni a.1 a.2):=
 Spec.of jW rfl rfl rfl Y0
noncomputable def Qc(a0:AM):Option (GS AM):=(Ni a0 (10:UInt8)).bind fun x1=>(Fo x1.l (IntKind.i64.wrap ((x1.l.length:Int)-1))).bind fun x4=>if(decide (x4=[]))=true then (slG x1 none (some (IntKind.i64.wrap ((x1.l.length:Int)-1)))).bind fun x9=>some x9 else some x1
noncomputable def Y1(a:BS [Ax]):B6 tb Mv [Ax] [(T.sl Ax)] a:=Ad<|Ai (A1 (KE (t:=Ax)))<|Ah<|Ab rfl<|Aa.op (A2 RQ (.cons (Ae rfl)<| .one (gP 10 rfl))) fun x1=>Ab rfl<|Ah<|Ad<|Ab rfl<|Ab rfl<|Ag (Ez (Ae rfl)) fun x2=>Ag (DZ (I:=(IT.int .i64)) (Ae rfl) AJ) fun x3=>Aa.op (FO rfl (Ae rfl) (Ae rfl)) fun x4=>An (Ja rfl rfl (Ae rfl)) fun x5=>Ag (MG (Ae rfl) Ds) fun x6=>Ac<|Aa.cond (Ae rfl) (Ad<|Ab rfl<|Ab rfl<|Ag (Ez (Ae rfl)) fun x7=>Ag (DZ (I:=(IT.int .i64)) (Ae rfl) AJ) fun x8=>Aa.op (h_sll rfl (Ae rfl) .none (.some (Ae rfl))) fun x9=>Ab rfl<|Ac<|Aa.ret (.one (AA rfl))) (Aa.skip<|Ah<|Ab rfl<|Ab rfl<|Ac<|Aa.ret (.one (AA rfl)))
theorem aY:Spec tb H8 [Ax] [(T.sl Ax)] (fun a=>Qc a):=
 Spec.of jX rfl rfl rfl Y1
noncomputable def Hf(a0:Int):Option AM:=(HZ (decide (a0<0)) (some (decide (20<a0)))).bind fun x3=>(fun(k5:Int→Option _)=>if x3=true then k5 1 else k5 a0) fun p4=>let x7:=(⟨16,(Ay 32 T.u8).z,IT.u64.ofI p4,Ao.z,Aj.z⟩:Ap);(Gv (GS.mk [x7])).bind fun x9=>(Ei x9).bind fun x10=>some x10.1
noncomputable def Rp(a:BS [(T.int .i64)]):B6 tb HL [(T.int .i64)] [Ax] a:=Ad<|Ai (A1 Ds)<|Ah<|Ad<|Ab rfl<|Ag (A4 rfl (Ae rfl) AJ) fun x1=>Ab rfl<|Aa.or 2 rfl rfl rfl (AP (A1 (Ae rfl))<|Bf (A4 rfl (Ae rfl) AJ) fun x2=>Bj.nil (Ae rfl)) fun x3=>Ac<|Hq (τ:=Int) (fun p4=>⟨[(0, .val (T.int .i64) p4)],[]⟩) (fun p4=>Ah<|Ab rfl<|Ag (DL (I:=(IT.int .i64)) (J:=IT.u64) rfl (Ae rfl)) fun x6=>Ag (Cy rfl rfl (.cons Az rfl AJ<| .cons By rfl (Ae rfl)<| .nil _)) fun x7=>Ag (Nt (t:=Af) (n:=1) rfl rfl (.cons rfl (Ae rfl)<| .nil _)) fun x8=>Aa.op (A2 OI (.one (Ae rfl))) fun x9=>Aa.op (Ik LW (.one (Ae rfl))) fun x10=>Ab rfl<|An (Ci (Ae rfl) rfl) fun x11=>An (Ci (Ae rfl) rfl) fun x12=>Ab rfl<|Ab rfl<|Ah<|Ab rfl<|Ab rfl<|Ac<|Aa.ret (.one (AA rfl))) fun k5=>Aa.cond (Ae rfl) (Ai (A1 AJ)<|Aa.weak (k5 1) sB) (Aa.skip<|Aa.weak (k5 a) sB)
theorem RS:Spec tb Ep [(T.int .i64)] [Ax] (fun a=>Hf a):=
 Spec.of Ug rfl rfl rfl Rp
noncomputable def Nm(_:Unit):Option Bool:=(He (⟨(Ay 32 T.u8).z,0,0, .nil⟩:B4)).bind fun x2=>(Dx (decide (x2.2=0)) ((Qc x2.1).bind fun x6=>some (decide ((x6.l.length:Int)=5)))).bind fun x9=>(Dx x9 ((Hf 7).bind fun x10=>let x11:=decide (x10=[101,114,114,110,111,61,55,10,10]);some x11)).bind fun x12=>some x12
noncomputable def Y5(a:BS []):B6 tb Mz [] [T.b] a:=Ad<|Ai (A1 Hw)<|Ah<|Ag (Cy rfl rfl (.nil _)) fun x1=>Aa.op (Ik Pp (.one (Ae rfl))) fun x2=>Ab rfl<|An (Ci (Ae rfl) rfl) fun x3=>An (Ci (Ae rfl) rfl) fun x4=>Ab rfl<|Ab rfl<|Ah<|Ab rfl<|Ag (A4 rfl (Ae rfl) AJ) fun x5=>Ab rfl<|Aa.and 4 rfl rfl rfl (AP (A1 (Ae rfl))<|Bj.op (A2 aY (.one (Ae rfl))) fun x6=>Bf (Ez (Ae rfl)) fun x7=>Bf (A4 rfl (Ae rfl) AJ) fun x8=>Bj.nil (Ae rfl)) fun x9=>Ab rfl<|Aa.and 2 rfl rfl rfl (Bj.op (A2 RS (.one AJ)) fun x10=>Bf (MG (Ae rfl) Ds) fun x11=>Bj.nil (Ae rfl)) fun x12=>Ab rfl<|Ac<|Aa.ret (.one (AA rfl))
theorem RR:Spec tb G0 [] [T.b] (fun a=>Nm ()):=
 Spec.of kB rfl rfl rfl Y5
noncomputable def Pt(a0:Int):Option Bool:=(Dx (decide (0≤a0)) (some (decide (a0≤65535)))).bind fun x3=>some x3
noncomputable def bM(a:BS [(T.int .i64)]):B6 tb O2 [(T.int .i64)] [T.b] a:=Ad<|Ai (A1 Hw)<|Ah<|Ab rfl<|Ag (A4 rfl (Ae rfl) AJ) fun x1=>Ab rfl<|Aa.and 2 rfl rfl rfl (AP (A1 (Ae rfl))<|Bf (A4 rfl (Ae rfl) AJ) fun x2=>Bj.nil (Ae rfl)) fun x3=>Ab rfl<|Ac<|Aa.ret (.one (AA rfl))
theorem Uz:Spec tb Hh [(T.int .i64)] [T.b] (fun a=>Pt a):=
 Spec.of nN rfl rfl rfl bM
noncomputable def II(a0:AB):Option Bool:=if(decide (a0.V=6))=true then some true else (iter (fun(s3:Int)=>if(decide (s3<16))=true then (DQ 16 s3).bind fun x6=>(a0.B.l[x6]?).bind fun x7=>let x8:= !decide ((x7.toNat:Int)=((0:UInt8).toNat:Int));if x8=true then (some false).map fun r=> .inr (.inr r) else some (.inl (IntKind.i64.wrap (s3+1))) else some (.inr (.inl ()))) 4).bind (Sum.elim (fun(p4:Unit)=>some (decide (a0.V=4))) some)
noncomputable def Yy(a:BS [Ak]):B6 tb Ms [Ak] [T.b] a:=Ad<|Al (Bq (t:=Ak) 1 rfl rfl (Ae rfl)) fun _=>Ai (A1 Hw)<|Ah<|Ad<|Ai (AE (Ae rfl))<|An (A3 (t:=Ak) (u:=(T.int .i64)) (Ae rfl) rfl rfl B8 rfl rfl) fun x1=>Ag (A4 rfl (Ae rfl) AJ) fun x2=>Ac<|Aa.cond (Ae rfl) (Ad<|Ai (A1 Hw)<|Ac<|Aa.ret (.one (AA rfl))) (Aa.skip<|Ah<|Ad<|Ai (A1 AJ)<|Ac<|A6<|Aa.loop (id:=0) (σ:=Int) (τ:=Unit) (fun s3=>⟨[(1, .cp 1 0),(3, .val (T.int .i64) s3)],[(1, .cells [(17, .val Ak a)])]⟩) (fun p4=>⟨[(1, .cp 1 0)],[(1, .cells [(17, .val Ak a)])]⟩) 4 sB (fun _=>rfl) (fun s3=>Ad<|Ad<|Ab rfl<|Ag (A4 rfl (Ae rfl) AJ) fun x5=>Ac<|Aa.cond (Ae rfl) (Aa.skip<|Ah<|A6<|Ad<|Ab rfl<|Ai (AE (Ae rfl))<|Aa.op (Er (Ae rfl) (Ae rfl)) fun x6=>Aa.op (Jl B5 rfl rfl (Ae rfl) rfl rfl) fun x7=>Ag (ER (I:=IT.u8) rfl (Ae rfl) (gP 0 rfl)) fun x8=>Ac<|Aa.cond (Ae rfl) (Ad<|Ai (A1 Hw)<|Ac<|BA<|Aa.ret (.one (AA rfl))) (Aa.skip<|AI<|Ac<|Ab rfl<|Ag (Bt (I:=(IT.int .i64)) (Ae rfl) AJ) fun x9=>Ab rfl<|Aa.next x9 sB)) (AQ<|Bv () sB)) (fun p4=>AR<|Ah<|Ai (AE (Ae rfl))<|An (A3 (t:=Ak) (u:=(T.int .i64)) (Ae rfl) rfl rfl B8 rfl rfl) fun x10=>Ag (A4 rfl (Ae rfl) AJ) fun x11=>Ab rfl<|Ac<|Aa.ret (.one (AA rfl))))
theorem Jd:Spec tb Ea [Ak] [T.b] (fun a=>II a):=
 Spec.of jU rfl rfl rfl Yy
noncomputable def Lv(a0:AF):Option Bool:=(II a0.A).bind fun x2=>(Dx x2 (some (decide (1≤a0.Port)))).bind fun x5=>(Dx x5 (some (decide (a0.Port≤65535)))).bind fun x8=>some x8
noncomputable def Yu(a:BS [Ao]):B6 tb Mo [Ao] [T.b] a:=Ad<|Al (Bq (t:=Ao) 1 rfl rfl (Ae rfl)) fun _=>Ai (A1 Hw)<|Ah<|Ai (AE (Ae rfl))<|An (A3 (t:=Ao) (u:=Ak) (Ae rfl) rfl rfl Dz rfl rfl) fun x1=>Aa.op (A2 Jd (.one (Ae rfl))) fun x2=>Ab rfl<|Aa.and 3 rfl rfl rfl (AP (AE (Ae rfl))<|Ca (A3 (t:=Ao) (u:=(T.int .i64)) (Ae rfl) rfl rfl DF rfl rfl) fun x3=>Bf (A4 rfl (Ae rfl) AJ) fun x4=>Bj.nil (Ae rfl)) fun x5=>Ab rfl<|Aa.and 3 rfl rfl rfl (AP (AE (Ae rfl))<|Ca (A3 (t:=Ao) (u:=(T.int .i64)) (Ae rfl) rfl rfl DF rfl rfl) fun x6=>Bf (A4 rfl (Ae rfl) AJ) fun x7=>Bj.nil (Ae rfl)) fun x8=>Ab rfl<|Ac<|Aa.ret (.one (AA rfl))
theorem RN:Spec tb Gw [Ao] [T.b] (fun a=>Lv a):=
 Spec.of jQ rfl rfl rfl Yu
noncomputable def Nf(a0:AB):Option Int:=(II a0).bind fun x2=>if(!x2)=true then some 0 else if(decide (a0.V=4))=true then some 32 else some 128
noncomputable def Yx(a:BS [Ak]):B6 tb Mr [Ak] [(T.int .i64)] a:=Ad<|Al (Bq (t:=Ak) 1 rfl rfl (Ae rfl)) fun _=>Ai (A1 AJ)<|Ah<|Ad<|An (A3 (t:=Ak) (u:=Ak) (Ae rfl) rfl rfl (Aw _) rfl rfl) fun x1=>Aa.op (A2 Jd (.one (Ae rfl))) fun x2=>Ag (EQ (Ae rfl)) fun x3=>Ac<|Aa.cond (Ae rfl) (Ad<|Ai (A1 AJ)<|Ac<|Aa.ret (.one (AA rfl))) (Aa.skip<|Ah<|Ad<|Ai (AE (Ae rfl))<|An (A3 (t:=Ak) (u:=(T.int .i64)) (Ae rfl) rfl rfl B8 rfl rfl) fun x4=>Ag (A4 rfl (Ae rfl) AJ) fun x5=>Ac<|Aa.cond (Ae rfl) (Ad<|Ai (A1 AJ)<|Ac<|Aa.ret (.one (AA rfl))) (Aa.skip<|Ah<|Ai (A1 AJ)<|Ac<|Aa.ret (.one (AA rfl))))
theorem RP:Spec tb Gy [Ak] [(T.int .i64)] (fun a=>Nf a):=
 Spec.of jT rfl rfl rfl Yx
noncomputable def Qa(a0:AB)(a1:Int):Option Int:=(if 8=0 then none else some (IntKind.i64.wrap (Int.tdiv a1 8))).bind fun x1=>(DQ 16 x1).bind fun x2=>(a0.B.l[x2]?).bind fun x3=>(iter (fun(s5:(Int×Int))=>(if 8=0 then none else some (Int.tmod a1 8)).bind fun x7=>if(decide (x7<s5.2))=true then (if 2=0 then none else some (IntKind.i64.wrap (Int.tdiv s5.1 2))).bind fun x9=>some (.inl (x9,IntKind.i64.wrap (s5.2-1))) else some (.inr (.inl s5.1))) (IntKind.i64.wrap (x3.toNat:Int),7)).bind (Sum.elim (fun(p6:Int)=>(if 2=0 then none else some (Int.tmod p6 2)).bind fun x11=>some x11) some)
noncomputable def Yw(a:BS [Ak,(T.int .i64)]):B6 tb Mq [Ak,(T.int .i64)] [(T.int .i64)] a:=Ad<|Al (Bq (t:=Ak) 2 rfl rfl (Ae rfl)) fun _=>Ai (A1 AJ)<|Ah<|Ab rfl<|Aa.op (KT (I:=(IT.int .i64)) (Ae rfl) AJ) fun x1=>Ai (AE (Ae rfl))<|Aa.op (Er (Ae rfl) (Ae rfl)) fun x2=>Aa.op (Jl B5 rfl rfl (Ae rfl) rfl rfl) fun x3=>Ag (DL (I:=IT.u8) (J:=(IT.int .i64)) rfl (Ae rfl)) fun x4=>Ab rfl<|Ah<|Ad<|Ai (A1 AJ)<|Ac<|A6<|Aa.loop (id:=0) (σ:=(Int×Int)) (τ:=Int) (fun s5=>⟨[(1, .val (T.int .i64) a.2),(5, .val (T.int .i64) s5.1),(6, .val (T.int .i64) s5.2)],[]⟩) (fun p6=>⟨[(5, .val (T.int .i64) p6)],[]⟩) (x4,7) sB (fun _=>rfl) (fun s5=>Ad<|Ad<|Ab rfl<|Ab rfl<|Aa.op (iW (Ae rfl) AJ) fun x7=>Ag (A4 rfl (Ae rfl) (Ae rfl)) fun x8=>Ac<|Aa.cond (Ae rfl) (Aa.skip<|Ah<|A6<|Ab rfl<|Aa.op (KT (I:=(IT.int .i64)) (Ae rfl) AJ) fun x9=>Ab rfl<|AI<|Ac<|Ab rfl<|Ag (DZ (I:=(IT.int .i64)) (Ae rfl) AJ) fun x10=>Ab rfl<|Aa.next (x9,x10) sB) (AQ<|Bv s5.1 sB)) (fun p6=>AR<|Ah<|Ab rfl<|Aa.op (iW (Ae rfl) AJ) fun x11=>Ab rfl<|Ac<|Aa.ret (.one (AA rfl)))
theorem aW:Spec tb H6 [Ak,(T.int .i64)] [(T.int .i64)] (fun a=>Qa a.1 a.2):=
 Spec.of jS rfl rfl rfl Yw
noncomputable def Sn(a0:AB)(a1:Int):Option AB:=(II a0).bind fun x3=>if(!x3)=true then some (⟨0,(Ay 16 T.u8).z⟩:AB) else (Nf a0).bind fun x12=>(iter (fun(s13:(Int×AB))=>(Dx (decide (s13.1<x12)) (some (decide (s13.1<a1)))).bind fun x17=>if x17=true then (Qa a0 s13.1).bind fun x19=>if(decide (x19=1))=true then (iter (fun(s21:(Int×Int))=>(if 8=0 then none else some (Int.tmod s13.1 8)).bind fun x23=>if(decide (s21.2<x23))=true then (if 2=0 then none else some (IntKind.i64.wrap (Int.tdiv s21.1 2))).bind fun x25=>some (.inl (x25,IntKind.i64.wrap (s21.2+1))) else some (.inr (.inl s21.1))) (128,0)).bind (Sum.elim (fun(p22:Int)=>(if 8=0 then none else some (IntKind.i64.wrap (Int.tdiv s13.1 8))).bind fun x27=>(if 8=0 then none else some (IntKind.i64.wrap (Int.tdiv s13.1 8))).bind fun x28=>(DQ 16 x28).bind fun x29=>(s13.2.B.l[x29]?).bind fun x30=>let x32:=Q7 ((x30.toNat:Int)+((Q7 p22).toNat:Int));(DQ 16 x27).bind fun x33=>(if x33<16 then some ({s13.2 with B:=s13.2.B.set x33 x32})else none).bind fun x34=>some (.inl (IntKind.i64.wrap (s13.1+1),x34))) some) else some (.inl (IntKind.i64.wrap (s13.1+1),s13.2)) else some (.inr (.inl s13.2))) (0,(⟨a0.V,(Ay 16 T.u8).z⟩:AB))).bind (Sum.elim (fun(p14:AB)=>some p14) some)
noncomputable def bR(a:BS [Ak,(T.int .i64)]):B6 tb O7 [Ak,(T.int .i64)] [Ak] a:=Ad<|Al (Bq (t:=Ak) 2 rfl rfl (Ae rfl)) fun _=>Al (BZ (t:=Ak) 4 rfl rfl) fun x1=>Ah<|Ad<|An (A3 (t:=Ak) (u:=Ak) (Ae rfl) rfl rfl (Aw _) rfl rfl) fun x2=>Aa.op (A2 Jd (.one (Ae rfl))) fun x3=>Ag (EQ (Ae rfl)) fun x4=>Ac<|Aa.cond (Ae rfl) (Ad<|Ag (Cy rfl rfl (.nil _)) fun x5=>Al (CV (Ae rfl) (Ae rfl) rfl rfl (Aw _) rfl) fun x6=>Ac<|Aa.ret (.one (GR rfl rfl rfl (Aw _) rfl rfl))) (Aa.skip<|Ah<|Ai (AE (Ae rfl))<|An (A3 (t:=Ak) (u:=(T.int .i64)) (Ae rfl) rfl rfl B8 rfl rfl) fun x7=>Ag (Cy rfl rfl (.cons B8 rfl (Ae rfl)<| .nil _)) fun x8=>Al (BZ (t:=Ak) 5 rfl rfl) fun x9=>Al (CV (Ae rfl) (Ae rfl) rfl rfl (Aw _) rfl) fun x10=>Ah<|An (A3 (t:=Ak) (u:=Ak) (Ae rfl) rfl rfl (Aw _) rfl rfl) fun x11=>Aa.op (A2 RP (.one (Ae rfl))) fun x12=>Ab rfl<|Ah<|Ad<|Ai (A1 AJ)<|Ac<|A6<|Aa.loop (id:=0) (σ:=(Int×AB)) (τ:=AB) (fun s13=>⟨[(1, .val (T.int .i64) a.2),(2, .cp 2 0),(4, .cp 4 0),(5, .cp 5 0),(6, .val (T.int .i64) x12),(7, .val (T.int .i64) s13.1)],[(2, .cells [(17, .val Ak a.1)]),(4, .cells [(17, .val Ak x1)]),(5, .cells [(17, .val Ak s13.2)])]⟩) (fun p14=>⟨[(4, .cp 4 0),(5, .cp 5 0)],[(4, .cells [(17, .val Ak x1)]),(5, .cells [(17, .val Ak p14)])]⟩) (0,x10) sB (fun _=>rfl) (fun s13=>Ad<|Ad<|Ab rfl<|Ab rfl<|Ag (A4 rfl (Ae rfl) (Ae rfl)) fun x15=>Ab rfl<|Aa.and 3 rfl rfl rfl (AP (A1 (Ae rfl))<|AP (A1 (Ae rfl))<|Bf (A4 rfl (Ae rfl) (Ae rfl)) fun x16=>Bj.nil (Ae rfl)) fun x17=>Ac<|Aa.cond (Ae rfl) (Aa.skip<|Ah<|A6<|Ad<|An (A3 (t:=Ak) (u:=Ak) (Ae rfl) rfl rfl (Aw _) rfl rfl) fun x18=>
 Ab rfl<|Aa.op (A2 aW (.cons (Ae rfl)<| .one (Ae rfl))) fun x19=>Ag (A4 rfl (Ae rfl) AJ) fun x20=>Ac<|Aa.cond (Ae rfl) (Ad<|Ai (A1 AJ)<|Ah<|Ad<|Ai (A1 AJ)<|Ac<|A6<|Aa.loop (id:=2) (σ:=(Int×Int)) (τ:=Int) (fun s21=>⟨[(1, .val (T.int .i64) a.2),(2, .cp 2 0),(4, .cp 4 0),(5, .cp 5 0),(6, .val (T.int .i64) x12),(7, .val (T.int .i64) s13.1),(8, .val (T.int .i64) s21.1),(9, .val (T.int .i64) s21.2)],[(2, .cells [(17, .val Ak a.1)]),(4, .cells [(17, .val Ak x1)]),(5, .cells [(17, .val Ak s13.2)])]⟩) (fun p22=>⟨[(1, .val (T.int .i64) a.2),(2, .cp 2 0),(4, .cp 4 0),(5, .cp 5 0),(6, .val (T.int .i64) x12),(7, .val (T.int .i64) s13.1),(8, .val (T.int .i64) p22)],[(2, .cells [(17, .val Ak a.1)]),(4, .cells [(17, .val Ak x1)]),(5, .cells [(17, .val Ak s13.2)])]⟩) (128,0) sB (fun _=>rfl) (fun s21=>Ad<|Ad<|Ab rfl<|Ab rfl<|Aa.op (iW (Ae rfl) AJ) fun x23=>Ag (A4 rfl (Ae rfl) (Ae rfl)) fun x24=>Ac<|Aa.cond (Ae rfl) (Aa.skip<|Ah<|A6<|Ab rfl<|Aa.op (KT (I:=(IT.int .i64)) (Ae rfl) AJ) fun x25=>Ab rfl<|AI<|Ac<|Ab rfl<|Ag (Bt (I:=(IT.int .i64)) (Ae rfl) AJ) fun x26=>Ab rfl<|Aa.next (x25,x26) sB) (AQ<|Bv s21.1 sB)) (fun p22=>AR<|Ac<|Ab rfl<|Aa.op (KT (I:=(IT.int .i64)) (Ae rfl) AJ) fun x27=>Ab rfl<|Aa.op (KT (I:=(IT.int .i64)) (Ae rfl) AJ) fun x28=>Ai (AE (Ae rfl))<|Aa.op (Er (Ae rfl) (Ae rfl)) fun x29=>Aa.op (Jl B5 rfl rfl (Ae rfl) rfl rfl) fun x30=>Ab rfl<|Ag (DL (I:=(IT.int .i64)) (J:=IT.u8) rfl (Ae rfl)) fun x31=>Ag (Bt (I:=IT.u8) (Ae rfl) (Ae rfl)) fun x32=>Ai (AE (Ae rfl))<|Aa.op (Er (Ae rfl) (Ae rfl)) fun x33=>
 Cq (Ii (s:=Ak) B5 rfl (Ae rfl) (Ae rfl) rfl rfl) fun x34=>AI<|Ac<|Ab rfl<|Ag (Bt (I:=(IT.int .i64)) (Ae rfl) AJ) fun x35=>Ab rfl<|Aa.next (x35,x34) sB)) (Aa.skip<|AI<|Ac<|Ab rfl<|Ag (Bt (I:=(IT.int .i64)) (Ae rfl) AJ) fun x36=>Ab rfl<|Aa.next (x36,s13.2) sB)) (AQ<|Bv s13.2 sB)) (fun p14=>AR<|Ah<|An (A3 (t:=Ak) (u:=Ak) (Ae rfl) rfl rfl (Aw _) rfl rfl) fun x37=>Al (CV (Ae rfl) (Ae rfl) rfl rfl (Aw _) rfl) fun x38=>Ac<|Aa.ret (.one (GR rfl rfl rfl (Aw _) rfl rfl))))
theorem fM:Spec tb IS [Ak,(T.int .i64)] [Ak] (fun a=>Sn a.1 a.2):=
 Spec.of nS rfl rfl rfl bR
noncomputable def JJ(a0:Aq):Option Bool:=(II a0.A).bind fun x2=>(HZ (!x2) (some (decide (a0.Bits<0)))).bind fun x6=>(HZ x6 ((Nf a0.A).bind fun x9=>some (decide (x9<a0.Bits)))).bind fun x11=>if x11=true then some false else (Sn a0.A a0.Bits).bind fun x15=>some (HH EW a0.A x15)
noncomputable def Yv(a:BS [Aj]):B6 tb Mp [Aj] [T.b] a:=Ad<|Al (Bq (t:=Aj) 1 rfl rfl (Ae rfl)) fun _=>Ai (A1 Hw)<|Ah<|Ad<|Ai (AE (Ae rfl))<|An (A3 (t:=Aj) (u:=Ak) (Ae rfl) rfl rfl BC rfl rfl) fun x1=>Aa.op (A2 Jd (.one (Ae rfl))) fun x2=>Ag (EQ (Ae rfl)) fun x3=>Ab rfl<|Aa.or 3 rfl rfl rfl (AP (AE (Ae rfl))<|Ca (A3 (t:=Aj) (u:=(T.int .i64)) (Ae rfl) rfl rfl Cc rfl rfl) fun x4=>Bf (A4 rfl (Ae rfl) AJ) fun x5=>Bj.nil (Ae rfl)) fun x6=>Ab rfl<|Aa.or 6 rfl rfl rfl (AP (AE (Ae rfl))<|Ca (A3 (t:=Aj) (u:=(T.int .i64)) (Ae rfl) rfl rfl Cc rfl rfl) fun x7=>AP (AE (Ae rfl))<|Ca (A3 (t:=Aj) (u:=Ak) (Ae rfl) rfl rfl BC rfl rfl) fun x8=>Bj.op (A2 RP (.one (Ae rfl))) fun x9=>Bf (A4 rfl (Ae rfl) (Ae rfl)) fun x10=>Bj.nil (Ae rfl)) fun x11=>Ac<|Aa.cond (Ae rfl) (Ad<|Ai (A1 Hw)<|Ac<|Aa.ret (.one (AA rfl))) (Aa.skip<|Ah<|Ai (AE (Ae rfl))<|An (A3 (t:=Aj) (u:=Ak) (Ae rfl) rfl rfl BC rfl rfl) fun x12=>Ai (AE (Ae rfl))<|An (A3 (t:=Aj) (u:=Ak) (Ae rfl) rfl rfl BC rfl rfl) fun x13=>Ai (AE (Ae rfl))<|An (A3 (t:=Aj) (u:=(T.int .i64)) (Ae rfl) rfl rfl Cc rfl rfl) fun x14=>Aa.op (A2 fM (.cons (Ae rfl)<| .one (Ae rfl))) fun x15=>Ag (QA EW rfl rfl (Ae rfl) (Ae rfl)) fun x16=>Ab rfl<|Ac<|Aa.ret (.one (AA rfl)))
theorem RO:Spec tb Gx [Aj] [T.b] (fun a=>JJ a):=
 Spec.of jR rfl rfl rfl Yv
noncomputable def So(a0:AB)(a1:AB):Option Bool:=if(!decide (a0.V=a1.V))=true then some (decide (a0.V<a1.V)) else (iter (fun(s7:Int)=>if(decide (s7<16))=true then (DQ 16 s7).bind fun x10=>(a0.B.l[x10]?).bind fun x11=>(DQ 16 s7).bind fun x12=>(a1.B.l[x12]?).bind fun x13=>if(!decide ((x11.toNat:Int)=(x13.toNat:Int)))=true then (DQ 16 s7).bind fun x15=>(a0.B.l[x15]?).bind fun x16=>(DQ 16 s7).bind fun x17=>(a1.B.l[x17]?).bind fun x18=>(some (decide ((x16.toNat:Int)<(x18.toNat:Int)))).map fun r=> .inr (.inr r) else some (.inl (IntKind.i64.wrap (s7+1))) else some (.inr (.inl ()))) 0).bind (Sum.elim (fun(p8:Unit)=>some false) some)
noncomputable def bS(a:BS [Ak,Ak]):B6 tb O8 [Ak,Ak] [T.b] a:=Ad<|Al (Bq (t:=Ak) 2 rfl rfl (Ae rfl)) fun _=>Al (Bq (t:=Ak) 3 rfl rfl (Ae rfl)) fun _=>Ai (A1 Hw)<|Ah<|Ad<|Ai (AE (Ae rfl))<|An (A3 (t:=Ak) (u:=(T.int .i64)) (Ae rfl) rfl rfl B8 rfl rfl) fun x1=>Ai (AE (Ae rfl))<|An (A3 (t:=Ak) (u:=(T.int .i64)) (Ae rfl) rfl rfl B8 rfl rfl) fun x2=>Ag (A4 rfl (Ae rfl) (Ae rfl)) fun x3=>Ac<|Aa.cond (Ae rfl) (Ad<|Ai (AE (Ae rfl))<|An (A3 (t:=Ak) (u:=(T.int .i64)) (Ae rfl) rfl rfl B8 rfl rfl) fun x4=>Ai (AE (Ae rfl))<|An (A3 (t:=Ak) (u:=(T.int .i64)) (Ae rfl) rfl rfl B8 rfl rfl) fun x5=>Ag (A4 rfl (Ae rfl) (Ae rfl)) fun x6=>Ab rfl<|Ac<|Aa.ret (.one (AA rfl))) (Aa.skip<|Ah<|Ad<|Ai (A1 AJ)<|Ac<|A6<|Aa.loop (id:=0) (σ:=Int) (τ:=Unit) (fun s7=>⟨[(2, .cp 2 0),(3, .cp 3 0),(5, .val (T.int .i64) s7)],[(2, .cells [(17, .val Ak a.1)]),(3, .cells [(17, .val Ak a.2)])]⟩) (fun p8=>⟨[],[]⟩) 0 sB (fun _=>rfl) (fun s7=>Ad<|Ad<|Ab rfl<|Ag (A4 rfl (Ae rfl) AJ) fun x9=>Ac<|Aa.cond (Ae rfl) (Aa.skip<|Ah<|A6<|Ad<|Ab rfl<|Ai (AE (Ae rfl))<|Aa.op (Er (Ae rfl) (Ae rfl)) fun x10=>Aa.op (Jl B5 rfl rfl (Ae rfl) rfl rfl) fun x11=>Ab rfl<|Ai (AE (Ae rfl))<|Aa.op (Er (Ae rfl) (Ae rfl)) fun x12=>Aa.op (Jl B5 rfl rfl (Ae rfl) rfl rfl) fun x13=>Ag (ER (I:=IT.u8) rfl (Ae rfl) (Ae rfl)) fun x14=>Ac<|Aa.cond (Ae rfl) (Ad<|Ab rfl<|Ai (AE (Ae rfl))<|Aa.op (Er (Ae rfl) (Ae rfl)) fun x15=>Aa.op (Jl B5 rfl rfl (Ae rfl) rfl rfl) fun x16=>Ab rfl<|Ai (AE (Ae rfl))<|Aa.op (Er (Ae rfl) (Ae rfl)) fun x17=>Aa.op (Jl B5 rfl rfl (Ae rfl) rfl rfl) fun x18=>
 Ag (ER (I:=IT.u8) rfl (Ae rfl) (Ae rfl)) fun x19=>Ab rfl<|Ac<|BA<|Aa.ret (.one (AA rfl))) (Aa.skip<|AI<|Ac<|Ab rfl<|Ag (Bt (I:=(IT.int .i64)) (Ae rfl) AJ) fun x20=>Ab rfl<|Aa.next x20 sB)) (AQ<|Bv () sB)) (fun p8=>AR<|Ah<|Ai (A1 Hw)<|Ac<|Aa.ret (.one (AA rfl))))
theorem fO:Spec tb IU [Ak,Ak] [T.b] (fun a=>So a.1 a.2):=
 Spec.of nT rfl rfl rfl bS
noncomputable def Nc(a0:Aq)(a1:Aq):Option Bool:=if(!(HH EW a0.A a1.A))=true then (So a0.A a1.A).bind fun x6=>some x6 else some (decide (a0.Bits<a1.Bits))
noncomputable def bP(a:BS [Aj,Aj]):B6 tb O5 [Aj,Aj] [T.b] a:=Ad<|Al (Bq (t:=Aj) 2 rfl rfl (Ae rfl)) fun _=>Al (Bq (t:=Aj) 3 rfl rfl (Ae rfl)) fun _=>Ai (A1 Hw)<|Ah<|Ad<|Ai (AE (Ae rfl))<|An (A3 (t:=Aj) (u:=Ak) (Ae rfl) rfl rfl BC rfl rfl) fun x1=>Ai (AE (Ae rfl))<|An (A3 (t:=Aj) (u:=Ak) (Ae rfl) rfl rfl BC rfl rfl) fun x2=>Ag (QA EW rfl rfl (Ae rfl) (Ae rfl)) fun x3=>Ac<|Aa.cond (Ae rfl) (Ad<|Ai (AE (Ae rfl))<|An (A3 (t:=Aj) (u:=Ak) (Ae rfl) rfl rfl BC rfl rfl) fun x4=>Ai (AE (Ae rfl))<|An (A3 (t:=Aj) (u:=Ak) (Ae rfl) rfl rfl BC rfl rfl) fun x5=>Aa.op (A2 fO (.cons (Ae rfl)<| .one (Ae rfl))) fun x6=>Ab rfl<|Ac<|Aa.ret (.one (AA rfl))) (Aa.skip<|Ah<|Ai (AE (Ae rfl))<|An (A3 (t:=Aj) (u:=(T.int .i64)) (Ae rfl) rfl rfl Cc rfl rfl) fun x7=>Ai (AE (Ae rfl))<|An (A3 (t:=Aj) (u:=(T.int .i64)) (Ae rfl) rfl rfl Cc rfl rfl) fun x8=>Ag (A4 rfl (Ae rfl) (Ae rfl)) fun x9=>Ab rfl<|Ac<|Aa.ret (.one (AA rfl)))
theorem fL:Spec tb IR [Aj,Aj] [T.b] (fun a=>Nc a.1 a.2):=
 Spec.of nQ rfl rfl rfl bP
noncomputable def PY(a0:B4):Option Bool:=(Pt a0.Port).bind fun x2=>(HZ (!x2) (some (decide (16<(a0.Peers.l.length:Int))))).bind fun x7=>if x7=true then some false else (iter (fun(s8:(Int×(GS Aq)))=>if(decide (s8.1<(a0.Peers.l.length:Int)))=true then (Fo a0.Peers.l s8.1).bind fun x14=>let x19:=(⟨[0,0,0,0,0,0,0,0,0,0,0,0,0,0,0,0,0,0,0,0,0,0,0,0,0,0,0,0,0,0,0,0],rfl⟩:(Ar UInt8 32));(HZ (HH (Hs 32 CT.u8) x14.Key x19) ((Pt x14.Keep).bind fun x22=>some (!x22))).bind fun x24=>(HZ x24 (let x27:= !(HH Cu x14.End (⟨Ak.z,0⟩:AF));(Dx x27 ((Lv x14.End).bind fun x29=>some (!x29))).bind fun x31=>some x31)).bind fun x32=>if x32=true then (some false).map fun r=> .inr (.inr r) else (iter (fun(s33:Int)=>if(decide (s33<s8.1))=true then (Fo a0.Peers.l s33).bind fun x37=>if(HH (Hs 32 CT.u8) x37.Key x14.Key)=true then ((some false).map fun r=> .inr (.inr r)).map fun r=> .inr (.inr r) else some (.inl (IntKind.i64.wrap (s33+1))) else some (.inr (.inl ()))) 0).bind (Sum.elim (fun(p34:Unit)=>(iter (fun(s43:(Int×(GS Aq)))=>if(decide (s43.1<(x14.Allowed.l.length:Int)))=true then (Fo x14.Allowed.l s43.1).bind fun x49=>(JJ x49).bind fun x54=>(HZ (!x54) ((Dx (decide (0<s43.1)) ((Fo x14.Allowed.l (IntKind.i64.wrap (s43.1-1))).bind fun x59=>(Nc x59 x49).bind fun x62=>some (!x62))).bind fun x64=>some x64)).bind fun x65=>if x65=true then ((some false).map fun r=> .inr (.inr r)).map fun r=> .inr (.inr r) else (iter (fun(s66:Int)=>if(decide (s66<(s43.2.l.length:Int)))=true then (DQ s43.2.l.length s66).bind fun x70=>
 (s43.2.l[x70]?.map fun x=>x).bind fun x71=>if(HH E9 x71 x49)=true then (((some false).map fun r=> .inr (.inr r)).map fun r=> .inr (.inr r)).map fun r=> .inr (.inr r) else some (.inl (IntKind.i64.wrap (s66+1))) else some (.inr (.inl ()))) 0).bind (Sum.elim (fun(p67:Unit)=>(Wc 32 s43.2 [x49]).bind fun x77=>some (.inl (IntKind.i64.wrap (s43.1+1),x77))) some) else some (.inr (.inl s43.2))) (0,s8.2)).bind (Sum.elim (fun(p44:(GS Aq))=>some (.inl (IntKind.i64.wrap (s8.1+1),p44))) some)) some) else some (.inr (.inl s8.2))) (0, .nil)).bind (Sum.elim (fun(p9:(GS Aq))=>some (decide ((p9.l.length:Int)≤64))) some)
noncomputable def Ys(a:BS [AD]):B6 tb Mm [AD] [T.b] a:=Ad<|Al (Bq (t:=AD) 1 rfl rfl (Ae rfl)) fun _=>Ai (A1 Hw)<|Ah<|Ad<|Ai (AE (Ae rfl))<|An (A3 (t:=AD) (u:=(T.int .i64)) (Ae rfl) rfl rfl Iy rfl rfl) fun x1=>Aa.op (A2 Uz (.one (Ae rfl))) fun x2=>Ag (EQ (Ae rfl)) fun x3=>Ab rfl<|Aa.or 4 rfl rfl rfl (AP (AE (Ae rfl))<|Ca (A3 (t:=AD) (u:=(T.sl A5)) (Ae rfl) rfl rfl BV rfl rfl) fun x4=>Bf (Ez (Ae rfl)) fun x5=>Bf (A4 rfl (Ae rfl) AJ) fun x6=>Bj.nil (Ae rfl)) fun x7=>Ac<|Aa.cond (Ae rfl) (Ad<|Ai (A1 Hw)<|Ac<|Aa.ret (.one (AA rfl))) (Aa.skip<|Ah<|Ai (A1 (KE (t:=Aj)))<|Aa.turn (born (n:=3) (j:=1003) rfl rfl)<|Ah<|Ad<|Ai (A1 AJ)<|Ac<|A6<|Aa.loop (id:=0) (σ:=(Int×(GS Aq))) (τ:=(GS Aq)) (fun s8=>⟨[(1, .cp 1 0),(3, .own 1003),(4, .val (T.int .i64) s8.1)],[(1, .cells [(35, .val AD a)]),(1003, .row Aj s8.2)]⟩) (fun p9=>⟨[(3, .own 1003)],[(1003, .row Aj p9)]⟩) (0, .nil) sB (fun _=>rfl) (fun s8=>Ad<|Ad<|Ab rfl<|Ai (AE (Ae rfl))<|An (A3 (t:=AD) (u:=(T.sl A5)) (Ae rfl) rfl rfl BV rfl rfl) fun x10=>Ag (Ez (Ae rfl)) fun x11=>Ag (A4 rfl (Ae rfl) (Ae rfl)) fun x12=>Ac<|Aa.cond (Ae rfl) (Aa.skip<|Ah<|A6<|Ad<|Ai (AE (Ae rfl))<|An (A3 (t:=AD) (u:=(T.sl A5)) (Ae rfl) rfl rfl BV rfl rfl) fun x13=>Ab rfl<|Aa.op (FO rfl (Ae rfl) (Ae rfl)) fun x14=>An (Ja rfl rfl (Ae rfl)) fun x15=>Al (BZ (t:=A5) 5 rfl rfl) fun x16=>Al (CV (Ae rfl) (Ae rfl) rfl rfl (Aw _) rfl) fun x17=>Ah<|Ad<|Ai (AE (Ae rfl))<|An (A3 (t:=A5) (u:=(Ay 32 T.u8)) (Ae rfl) rfl rfl EV rfl rfl) fun x18=>An (dG (t:=T.u8) (⟨[0,0,0,0,0,0,0,0,0,0,0,0,0,0,0,0,0,0,0,0,0,0,0,0,0,0,0,0,0,0,0,0],rfl⟩:(Ar UInt8 32)) rfl (.nil _)) fun x19=>
 Ag (QA (Hs 32 CT.u8) rfl rfl (Ae rfl) (Ae rfl)) fun x20=>Ab rfl<|Aa.or 4 rfl rfl rfl (AP (AE (Ae rfl))<|Ca (A3 (t:=A5) (u:=(T.int .i64)) (Ae rfl) rfl rfl Ix rfl rfl) fun x21=>Bj.op (A2 Uz (.one (Ae rfl))) fun x22=>Bf (EQ (Ae rfl)) fun x23=>Bj.nil (Ae rfl)) fun x24=>Ab rfl<|Aa.or 10 rfl rfl rfl (AP (AE (Ae rfl))<|Ca (A3 (t:=A5) (u:=Ao) (Ae rfl) rfl rfl Eo rfl rfl) fun x25=>Bf (Cy rfl rfl (.nil _)) fun x26=>Bf (QA Cu rfl rfl (Ae rfl) (Ae rfl)) fun x27=>AP (A1 (Ae rfl))<|Bj.and 4 rfl rfl rfl rfl rfl (AP (AE (Ae rfl))<|Ca (A3 (t:=A5) (u:=Ao) (Ae rfl) rfl rfl Eo rfl rfl) fun x28=>Bj.op (A2 RN (.one (Ae rfl))) fun x29=>Bf (EQ (Ae rfl)) fun x30=>Bj.nil (Ae rfl)) fun x31=>Bj.nil (Ae rfl)) fun x32=>Ac<|Aa.cond (Ae rfl) (Ad<|Ai (A1 Hw)<|Ac<|BA<|Aa.ret (.one (AA rfl))) (Aa.skip<|Ah<|Ad<|Ai (A1 AJ)<|Ac<|A6<|Aa.loop (id:=2) (σ:=Int) (τ:=Unit) (fun s33=>⟨[(1, .cp 1 0),(3, .own 1003),(4, .val (T.int .i64) s8.1),(5, .cp 5 0),(6, .val (T.int .i64) s33)],[(1, .cells [(35, .val AD a)]),(5, .cells [(86, .val A5 x17)]),(1003, .row Aj s8.2)]⟩) (fun p34=>⟨[(1, .cp 1 0),(3, .own 1003),(4, .val (T.int .i64) s8.1),(5, .cp 5 0)],[(1, .cells [(35, .val AD a)]),(5, .cells [(86, .val A5 x17)]),(1003, .row Aj s8.2)]⟩) 0 sB (fun _=>rfl) (fun s33=>Ad<|Ad<|Ab rfl<|Ab rfl<|Ag (A4 rfl (Ae rfl) (Ae rfl)) fun x35=>Ac<|Aa.cond (Ae rfl) (Aa.skip<|Ah<|A6<|Ad<|Ai (AE (Ae rfl))<|An (A3 (t:=AD) (u:=(T.sl A5)) (Ae rfl) rfl rfl BV rfl rfl) fun x36=>Ab rfl<|Aa.op (FO rfl (Ae rfl) (Ae rfl)) fun x37=>qU (h_fa EV (Ae rfl)) fun x38=>
 An (Ja rfl rfl (Ae rfl)) fun x39=>Ai (AE (Ae rfl))<|An (A3 (t:=A5) (u:=(Ay 32 T.u8)) (Ae rfl) rfl rfl EV rfl rfl) fun x40=>Ag (QA (Hs 32 CT.u8) rfl rfl (Ae rfl) (Ae rfl)) fun x41=>Ac<|Aa.cond (Ae rfl) (Ad<|Ai (A1 Hw)<|Ac<|BA<|BA<|Aa.ret (.one (AA rfl))) (Aa.skip<|AI<|Ac<|Ab rfl<|Ag (Bt (I:=(IT.int .i64)) (Ae rfl) AJ) fun x42=>Ab rfl<|Aa.next x42 sB)) (AQ<|Bv () sB)) (fun p34=>AR<|Ah<|Ai (A1 AJ)<|Ac<|A6<|Aa.loop (id:=4) (σ:=(Int×(GS Aq))) (τ:=(GS Aq)) (fun s43=>⟨[(1, .cp 1 0),(3, .own 1003),(4, .val (T.int .i64) s8.1),(5, .cp 5 0),(7, .val (T.int .i64) s43.1)],[(1, .cells [(35, .val AD a)]),(5, .cells [(86, .val A5 x17)]),(1003, .row Aj s43.2)]⟩) (fun p44=>⟨[(1, .cp 1 0),(3, .own 1003),(4, .val (T.int .i64) s8.1)],[(1, .cells [(35, .val AD a)]),(1003, .row Aj p44)]⟩) (0,s8.2) sB (fun _=>rfl) (fun s43=>Ad<|Ad<|Ab rfl<|Ai (AE (Ae rfl))<|An (A3 (t:=A5) (u:=(T.sl Aj)) (Ae rfl) rfl rfl Cr rfl rfl) fun x45=>Ag (Ez (Ae rfl)) fun x46=>Ag (A4 rfl (Ae rfl) (Ae rfl)) fun x47=>Ac<|Aa.cond (Ae rfl) (Aa.skip<|Ah<|A6<|Ad<|Ai (AE (Ae rfl))<|An (A3 (t:=A5) (u:=(T.sl Aj)) (Ae rfl) rfl rfl Cr rfl rfl) fun x48=>Ab rfl<|Aa.op (FO rfl (Ae rfl) (Ae rfl)) fun x49=>An (Ja rfl rfl (Ae rfl)) fun x50=>Al (BZ (t:=Aj) 8 rfl rfl) fun x51=>Al (CV (Ae rfl) (Ae rfl) rfl rfl (Aw _) rfl) fun x52=>Ah<|Ad<|An (A3 (t:=Aj) (u:=Aj) (Ae rfl) rfl rfl (Aw _) rfl rfl) fun x53=>Aa.op (A2 RO (.one (Ae rfl))) fun x54=>Ag (EQ (Ae rfl)) fun x55=>Ab rfl<|Aa.or 13 rfl rfl rfl (AP (A1 (Ae rfl))<|Bf (A4 rfl (Ae rfl) AJ) fun x56=>
 AP (A1 (Ae rfl))<|Bj.and 9 rfl rfl rfl rfl rfl (AP (AE (Ae rfl))<|Ca (A3 (t:=A5) (u:=(T.sl Aj)) (Ae rfl) rfl rfl Cr rfl rfl) fun x57=>AP (A1 (Ae rfl))<|Bf (DZ (I:=(IT.int .i64)) (Ae rfl) AJ) fun x58=>Bj.op (FO rfl (Ae rfl) (Ae rfl)) fun x59=>Ca (Ja rfl rfl (Ae rfl)) fun x60=>Ca (A3 (t:=Aj) (u:=Aj) (Ae rfl) rfl rfl (Aw _) rfl rfl) fun x61=>Bj.op (A2 fL (.cons (Ae rfl)<| .one (Ae rfl))) fun x62=>Bf (EQ (Ae rfl)) fun x63=>Bj.nil (Ae rfl)) fun x64=>Bj.nil (Ae rfl)) fun x65=>Ac<|Aa.cond (Ae rfl) (Ad<|Ai (A1 Hw)<|Ac<|BA<|BA<|Aa.ret (.one (AA rfl))) (Aa.skip<|Ah<|Ad<|Ai (A1 AJ)<|Ac<|A6<|Aa.loop (id:=6) (σ:=Int) (τ:=Unit) (fun s66=>⟨[(1, .cp 1 0),(3, .own 1003),(4, .val (T.int .i64) s8.1),(5, .cp 5 0),(7, .val (T.int .i64) s43.1),(8, .cp 8 0),(9, .val (T.int .i64) s66)],[(1, .cells [(35, .val AD a)]),(5, .cells [(86, .val A5 x17)]),(8, .cells [(18, .val Aj x52)]),(1003, .row Aj s43.2)]⟩) (fun p67=>⟨[(1, .cp 1 0),(3, .own 1003),(4, .val (T.int .i64) s8.1),(5, .cp 5 0),(7, .val (T.int .i64) s43.1),(8, .cp 8 0)],[(1, .cells [(35, .val AD a)]),(5, .cells [(86, .val A5 x17)]),(8, .cells [(18, .val Aj x52)]),(1003, .row Aj s43.2)]⟩) 0 sB (fun _=>rfl) (fun s66=>Ad<|Ad<|Ab rfl<|Ab rfl<|Ag (yN (Ae rfl) rfl) fun x68=>Ag (A4 rfl (Ae rfl) (Ae rfl)) fun x69=>Ac<|Aa.cond (Ae rfl) (Aa.skip<|Ah<|A6<|Ad<|Ab rfl<|Ab rfl<|Aa.op (h_iasO rfl (Ae rfl) rfl (Ae rfl)) fun x70=>Aa.op (h_ldE (t:=Aj) (u:=Aj) rfl rfl (Aw _) (Ae rfl) rfl) fun x71=>An (A3 (t:=Aj) (u:=Aj) (Ae rfl) rfl rfl (Aw _) rfl rfl) fun x72=>
 Ag (QA E9 rfl rfl (Ae rfl) (Ae rfl)) fun x73=>Ac<|Aa.cond (Ae rfl) (Ad<|Ai (A1 Hw)<|Ac<|BA<|BA<|BA<|Aa.ret (.one (AA rfl))) (Aa.skip<|AI<|Ac<|Ab rfl<|Ag (Bt (I:=(IT.int .i64)) (Ae rfl) AJ) fun x74=>Ab rfl<|Aa.next x74 sB)) (AQ<|Bv () sB)) (fun p67=>AR<|Ac<|Ab rfl<|An (A3 (t:=Aj) (u:=Aj) (Ae rfl) rfl rfl (Aw _) rfl rfl) fun x75=>Ag (Nt (t:=Aj) (n:=1) rfl rfl (.cons rfl (Ae rfl)<| .nil _)) fun x76=>Cq (N5 rfl (Ae rfl) rfl (TP (Ae rfl))) fun x77=>Ab rfl<|AI<|Ac<|Ab rfl<|Ag (Bt (I:=(IT.int .i64)) (Ae rfl) AJ) fun x78=>Ab rfl<|Aa.next (x78,x77) sB))) (AQ<|Bv s43.2 sB)) (fun p44=>AR<|AI<|Ac<|Ab rfl<|Ag (Bt (I:=(IT.int .i64)) (Ae rfl) AJ) fun x79=>Ab rfl<|Aa.next (x79,p44) sB)))) (AQ<|Bv s8.2 sB)) (fun p9=>AR<|Ah<|Ab rfl<|Ag (yN (Ae rfl) rfl) fun x80=>Ag (A4 rfl (Ae rfl) AJ) fun x81=>Ab rfl<|Ac<|Aa.ret (.one (AA rfl))))
theorem aU:Spec tb H4 [AD] [T.b] (fun a=>PY a):=
 Spec.of jO rfl rfl rfl Ys
noncomputable def pE(a0:Int):Option Bool:=(HZ (decide (a0=1)) (some (decide (a0=5)))).bind fun x3=>(HZ x3 (some (decide (a0=8)))).bind fun x5=>some x5
noncomputable def fT(a:BS [(T.int .i64)]):B6 tb Qp [(T.int .i64)] [T.b] a:=Ad<|Ai (A1 Hw)<|Ah<|Ab rfl<|Ag (A4 rfl (Ae rfl) AJ) fun x1=>Ab rfl<|Aa.or 2 rfl rfl rfl (AP (A1 (Ae rfl))<|Bf (A4 rfl (Ae rfl) AJ) fun x2=>Bj.nil (Ae rfl)) fun x3=>Ab rfl<|Aa.or 2 rfl rfl rfl (AP (A1 (Ae rfl))<|Bf (A4 rfl (Ae rfl) AJ) fun x4=>Bj.nil (Ae rfl)) fun x5=>Ab rfl<|Ac<|Aa.ret (.one (AA rfl))
theorem lJ:Spec tb JO [(T.int .i64)] [T.b] (fun a=>pE a):=
 Spec.of tH rfl rfl rfl fT
noncomputable def Nh(a0:(Ar UInt8 32)):Option (GS UInt8):=(iter (fun(s1:(Int×(GS UInt8)))=>if(decide (s1.1<32))=true then (DQ 32 s1.1).bind fun x4=>(a0.l[x4]?).bind fun x5=>(Wc 1 s1.2 [x5]).bind fun x7=>some (.inl (IntKind.i64.wrap (s1.1+1),x7)) else some (.inr (.inl s1.2))) (0, .nil)).bind (Sum.elim (fun(p2:(GS UInt8))=>some p2) some)
noncomputable def Yz(a:BS [(Ay 32 T.u8)]):B6 tb Mt [(Ay 32 T.u8)] [(T.sl T.u8)] a:=Ad<|Al (Bq (t:=(Ay 32 T.u8)) 1 rfl rfl (Ae rfl)) fun _=>Ai (A1 (KE (t:=T.u8)))<|Aa.turn (born (n:=2) (j:=1002) rfl rfl)<|Ah<|Ai (A1 (KE (t:=T.u8)))<|Aa.turn (born (n:=3) (j:=2002) rfl rfl)<|Ah<|Ad<|Ai (A1 AJ)<|Ac<|A6<|Aa.loop (id:=0) (σ:=(Int×(GS UInt8))) (τ:=(GS UInt8)) (fun s1=>⟨[(1, .cp 1 0),(3, .own 2002),(4, .val (T.int .i64) s1.1)],[(1, .cells [(32, .val (Ay 32 T.u8) a)]),(2002, .row T.u8 s1.2)]⟩) (fun p2=>⟨[(3, .own 2002)],[(2002, .row T.u8 p2)]⟩) (0, .nil) sB (fun _=>rfl) (fun s1=>Ad<|Ad<|Ab rfl<|Ag (A4 rfl (Ae rfl) AJ) fun x3=>Ac<|Aa.cond (Ae rfl) (Aa.skip<|Ah<|A6<|Ab rfl<|Ab rfl<|Aa.op (Er (Ae rfl) (Ae rfl)) fun x4=>Aa.op (Jl (Aw _) rfl rfl (Ae rfl) rfl rfl) fun x5=>Ag (Nt (t:=T.u8) (n:=1) rfl rfl (.cons rfl (Ae rfl)<| .nil _)) fun x6=>Cq (N5 rfl (Ae rfl) rfl (TP (Ae rfl))) fun x7=>Ab rfl<|AI<|Ac<|Ab rfl<|Ag (Bt (I:=(IT.int .i64)) (Ae rfl) AJ) fun x8=>Ab rfl<|Aa.next (x8,x7) sB) (AQ<|Bv s1.2 sB)) (fun p2=>AR<|Ah<|Ab rfl<|Ab rfl<|Ac<|Aa.frzRow 2002 rfl rfl<|Aa.ret (.one (AA rfl)))
theorem aX:Spec tb H7 [(Ay 32 T.u8)] [(T.sl T.u8)] (fun a=>Nh a):=
 Spec.of jV rfl rfl rfl Yz
noncomputable def Lw(a0:Int):Option AM:=(UZ [48,49,50,51,52,53,54,55,56,57,97,98,99,100,101,102] (some a0) (some (IntKind.i64.wrap (a0+1)))).bind fun x2=>some x2
noncomputable def Y2(a:BS [(T.int .i64)]):B6 tb Mw [(T.int .i64)] [Ax] a:=Ad<|Ai (A1 Ds)<|Ah<|Ab rfl<|Ab rfl<|Ag (Bt (I:=(IT.int .i64)) (Ae rfl) AJ) fun x1=>Aa.op (UE Ds (.some (Ae rfl)) (.some (Ae rfl))) fun x2=>Ab rfl<|Ac<|Aa.ret (.one (AA rfl))
theorem KV:Spec tb E2 [(T.int .i64)] [Ax] (fun a=>Lw a):=
 Spec.of jY rfl rfl rfl Y2
noncomputable def LC(a0:(GS UInt8)):Option AM:=(iter (fun(s1:(AM×Int))=>if(decide (s1.2<(a0.l.length:Int)))=true then (Fo a0.l s1.2).bind fun x5=>(if 16=0 then none else some (IntKind.i64.wrap (Int.tdiv (IntKind.i64.wrap (x5.toNat:Int)) 16))).bind fun x8=>(Lw x8).bind fun x9=>(if s1.1.length+x9.length≤2*Be then some (s1.1++x9)else none).bind fun x10=>(Fo a0.l s1.2).bind fun x11=>(if 16=0 then none else some (Int.tmod (IntKind.i64.wrap (x11.toNat:Int)) 16)).bind fun x14=>(Lw x14).bind fun x15=>(if x10.length+x15.length≤2*Be then some (x10++x15)else none).bind fun x16=>some (.inl (x16,IntKind.i64.wrap (s1.2+1))) else some (.inr (.inl s1.1))) ([],0)).bind (Sum.elim (fun(p2:AM)=>some p2) some)
noncomputable def W0(a:BS [(T.sl T.u8)]):B6 tb Ln [(T.sl T.u8)] [Ax] a:=Ad<|Ai (A1 Ds)<|Ah<|Ai (A1 Ds)<|Ah<|Ad<|Ai (A1 AJ)<|Ac<|A6<|Aa.loop (id:=0) (σ:=(AM×Int)) (τ:=AM) (fun s1=>⟨[(0, .val (T.sl T.u8) a),(3, .val Ax s1.1),(4, .val (T.int .i64) s1.2)],[]⟩) (fun p2=>⟨[(3, .val Ax p2)],[]⟩) ([],0) sB (fun _=>rfl) (fun s1=>Ad<|Ad<|Ab rfl<|Ab rfl<|Ag (Ez (Ae rfl)) fun x3=>Ag (A4 rfl (Ae rfl) (Ae rfl)) fun x4=>Ac<|Aa.cond (Ae rfl) (Aa.skip<|Ah<|A6<|Ab rfl<|Ab rfl<|Ab rfl<|Aa.op (FO rfl (Ae rfl) (Ae rfl)) fun x5=>An (Ja rfl rfl (Ae rfl)) fun x6=>Ag (DL (I:=IT.u8) (J:=(IT.int .i64)) rfl (Ae rfl)) fun x7=>Aa.op (KT (I:=(IT.int .i64)) (Ae rfl) AJ) fun x8=>Aa.op (A2 KV (.one (Ae rfl))) fun x9=>Aa.op (BR (Ae rfl) (Ae rfl)) fun x10=>Ab rfl<|Ab rfl<|Aa.op (FO rfl (Ae rfl) (Ae rfl)) fun x11=>An (Ja rfl rfl (Ae rfl)) fun x12=>Ag (DL (I:=IT.u8) (J:=(IT.int .i64)) rfl (Ae rfl)) fun x13=>Aa.op (iW (Ae rfl) AJ) fun x14=>Aa.op (A2 KV (.one (Ae rfl))) fun x15=>Aa.op (BR (Ae rfl) (Ae rfl)) fun x16=>Ab rfl<|AI<|Ac<|Ab rfl<|Ag (Bt (I:=(IT.int .i64)) (Ae rfl) AJ) fun x17=>Ab rfl<|Aa.next (x16,x17) sB) (AQ<|Bv s1.1 sB)) (fun p2=>AR<|Ah<|Ab rfl<|Ab rfl<|Ac<|Aa.ret (.one (AA rfl)))
theorem Yn:Spec tb GI [(T.sl T.u8)] [Ax] (fun a=>LC a):=
 Spec.of dO rfl rfl rfl W0
noncomputable def DP:Nat→UInt64→Option AM |0,_=>none |n+1,a0=>(if((10:UInt64).toNat:Int)=0 then none else some (IT.u64.ofI (Int.tmod (a0.toNat:Int) ((10:UInt64).toNat:Int)))).bind fun x1=>let x2:=IT.u64.ofI (((48:UInt64).toNat:Int)+(x1.toNat:Int));let x6:=decide ((a0.toNat:Int)<((10:UInt64).toNat:Int));if x6=true then some ([IT.u8.ofI (x2.toNat:Int)]:AM) else (if((10:UInt64).toNat:Int)=0 then none else some (IT.u64.ofI (Int.tdiv (a0.toNat:Int) ((10:UInt64).toNat:Int)))).bind fun x7=>(DP n x7).bind fun x8=>(if x8.length+([IT.u8.ofI (x2.toNat:Int)]:AM).length≤2*Be then some (x8++([IT.u8.ofI (x2.toNat:Int)]:AM))else none).bind fun x9=>some x9
noncomputable def bV(n:Nat)(ih:Spec tb Dc [T.u64] [Ax] (fun a=>DP n a))(a:BS [T.u64]):B6 tb OB [T.u64] [Ax] a:=Ad<|Ai (A1 Ds)<|Ah<|Ab rfl<|Aa.op (PB (I:=NT.u64) (Ae rfl) (Db 10 rfl)) fun x1=>Ag (Bt (I:=IT.u64) (Db 48 rfl) (Ae rfl)) fun x2=>Ag (DL (I:=IT.u64) (J:=IT.u8) rfl (Ae rfl)) fun x3=>Al (qW (t:=T.u8) (n:=1) 1008 rfl rfl (.cons rfl (Ae rfl)<| .nil _) rfl) fun x4=>Ag (h_cvsO (Ae rfl) rfl) fun x5=>Ab rfl<|Ah<|Ad<|Ab rfl<|Ag (ER (I:=IT.u64) rfl (Ae rfl) (Db 10 rfl)) fun x6=>Ac<|Aa.cond (Ae rfl) (Ad<|Ab rfl<|Ab rfl<|Ac<|Aa.ret (.one (AA rfl))) (Aa.skip<|Ah<|Ab rfl<|Aa.op (KT (I:=IT.u64) (Ae rfl) (Db 10 rfl)) fun x7=>Aa.op (A2 ih (.one (Ae rfl))) fun x8=>Ab rfl<|Aa.op (BR (Ae rfl) (Ae rfl)) fun x9=>Ab rfl<|Ac<|Aa.ret (.one (AA rfl)))
theorem QM: ∀n,Spec tb Dc [T.u64] [Ax] (fun a=>DP n a)
 |0=>Yc |n+1=>Spec.of nW rfl rfl rfl (bV n (QM n))
noncomputable def FN(a0:UInt64):Option AM:=ZK fun n=>DP n a0
theorem IF:Spec tb Dc [T.u64] [Ax] (fun a=>FN a):=aH QM
noncomputable def NL(a0:(Ar UInt8 16)):Option (Ar Int 8):=(iter (fun(s3:(Int×(Ar Int 8)))=>if(decide (s3.1<8))=true then (DQ 16 (IntKind.i64.wrap (2*s3.1))).bind fun x7=>(a0.l[x7]?).bind fun x8=>let x10:=IntKind.i64.wrap (256*IntKind.i64.wrap (x8.toNat:Int));let x12:=IntKind.i64.wrap (IntKind.i64.wrap (2*s3.1)+1);(DQ 16 x12).bind fun x13=>(a0.l[x13]?).bind fun x14=>let x16:=IntKind.i64.wrap (x10+IntKind.i64.wrap (x14.toNat:Int));(DQ 8 s3.1).bind fun x17=>(if x17<8 then some (s3.2.set x17 x16)else none).bind fun x18=>some (.inl (IntKind.i64.wrap (s3.1+1),x18)) else some (.inr (.inl s3.2))) (0,(Ay 8 (T.int .i64)).z)).bind (Sum.elim (fun(p4:(Ar Int 8))=>some p4) some)
noncomputable def Wz(a:BS [(Ay 16 T.u8)]):B6 tb Lm [(Ay 16 T.u8)] [(Ay 8 (T.int .i64))] a:=Ad<|Al (Bq (t:=(Ay 16 T.u8)) 1 rfl rfl (Ae rfl)) fun _=>Al (BZ (t:=(Ay 8 (T.int .i64))) 2 rfl rfl) fun x1=>Ah<|Al (BZ (t:=(Ay 8 (T.int .i64))) 3 rfl rfl) fun x2=>Ah<|Ad<|Ai (A1 AJ)<|Ac<|A6<|Aa.loop (id:=0) (σ:=(Int×(Ar Int 8))) (τ:=(Ar Int 8)) (fun s3=>⟨[(1, .cp 1 0),(2, .cp 2 0),(3, .cp 3 0),(4, .val (T.int .i64) s3.1)],[(1, .cells [(16, .val (Ay 16 T.u8) a)]),(2, .cells [(8, .val (Ay 8 (T.int .i64)) x1)]),(3, .cells [(8, .val (Ay 8 (T.int .i64)) s3.2)])]⟩) (fun p4=>⟨[(2, .cp 2 0),(3, .cp 3 0)],[(2, .cells [(8, .val (Ay 8 (T.int .i64)) x1)]),(3, .cells [(8, .val (Ay 8 (T.int .i64)) p4)])]⟩) (0,x2) sB (fun _=>rfl) (fun s3=>Ad<|Ad<|Ab rfl<|Ag (A4 rfl (Ae rfl) AJ) fun x5=>Ac<|Aa.cond (Ae rfl) (Aa.skip<|Ah<|A6<|Aa.regd 1<|A8 rfl (A1 (Ae rfl))<|A8 rfl (A1 (Ae rfl))<|B0 rfl (Hd (I:=(IT.int .i64)) AJ (Ae rfl)) fun x6=>A9.op rfl (Er (Ae rfl) (Ae rfl)) fun x7=>A9.op rfl (Jl (Aw _) rfl rfl (Ae rfl) rfl rfl) fun x8=>B0 rfl (DL (I:=IT.u8) (J:=(IT.int .i64)) rfl (Ae rfl)) fun x9=>B0 rfl (Hd (I:=(IT.int .i64)) AJ (Ae rfl)) fun x10=>A8 rfl (A1 (Ae rfl))<|B0 rfl (Hd (I:=(IT.int .i64)) AJ (Ae rfl)) fun x11=>B0 rfl (Bt (I:=(IT.int .i64)) (Ae rfl) AJ) fun x12=>A9.op rfl (Er (Ae rfl) (Ae rfl)) fun x13=>A9.op rfl (Jl (Aw _) rfl rfl (Ae rfl) rfl rfl) fun x14=>B0 rfl (DL (I:=IT.u8) (J:=(IT.int .i64)) rfl (Ae rfl)) fun x15=>B0 rfl (Bt (I:=(IT.int .i64)) (Ae rfl) (Ae rfl)) fun x16=>A9.op rfl (Er (Ae rfl) (Ae rfl)) fun x17=>
 DC rfl (fun _=> .nil) (.nil) (Ii (s:=(Ay 8 (T.int .i64))) (Aw _) rfl (Ae rfl) (Ae rfl) rfl rfl) fun x18=>CA<|AI<|Ac<|Ab rfl<|Ag (Bt (I:=(IT.int .i64)) (Ae rfl) AJ) fun x19=>Ab rfl<|Aa.next (x19,x18) sB) (AQ<|Bv s3.2 sB)) (fun p4=>AR<|Ah<|An (A3 (t:=(Ay 8 (T.int .i64))) (u:=(Ay 8 (T.int .i64))) (Ae rfl) rfl rfl (Aw _) rfl rfl) fun x20=>Al (CV (Ae rfl) (Ae rfl) rfl rfl (Aw _) rfl) fun x21=>Ac<|Aa.ret (.one (GR rfl rfl rfl (Aw _) rfl rfl)))
theorem Ym:Spec tb GH [(Ay 16 T.u8)] [(Ay 8 (T.int .i64))] (fun a=>NL a):=
 Spec.of dN rfl rfl rfl Wz
noncomputable def Sp(a0:(Ar Int 8))(a1:Int):Option Int:=(iter (fun(s1:Int)=>(Dx (decide (IntKind.i64.wrap (a1+s1)<8)) ((DQ 8 (IntKind.i64.wrap (a1+s1))).bind fun x6=>(a0.l[x6]?).bind fun x7=>some (decide (x7=0)))).bind fun x9=>if x9=true then some (.inl (IntKind.i64.wrap (s1+1))) else some (.inr (.inl s1))) 0).bind (Sum.elim (fun(p2:Int)=>some p2) some)
noncomputable def fV(a:BS [(Ay 8 (T.int .i64)),(T.int .i64)]):B6 tb Qr [(Ay 8 (T.int .i64)),(T.int .i64)] [(T.int .i64)] a:=Ad<|Al (Bq (t:=(Ay 8 (T.int .i64))) 2 rfl rfl (Ae rfl)) fun _=>Ai (A1 AJ)<|Ah<|Ai (A1 AJ)<|Ah<|A6<|Aa.loop (id:=0) (σ:=Int) (τ:=Int) (fun s1=>⟨[(1, .val (T.int .i64) a.2),(2, .cp 2 0),(5, .val (T.int .i64) s1)],[(2, .cells [(8, .val (Ay 8 (T.int .i64)) a.1)])]⟩) (fun p2=>⟨[(5, .val (T.int .i64) p2)],[]⟩) 0 sB (fun _=>rfl) (fun s1=>Ad<|Ad<|Ab rfl<|Ab rfl<|Ag (Bt (I:=(IT.int .i64)) (Ae rfl) (Ae rfl)) fun x3=>Ag (A4 rfl (Ae rfl) AJ) fun x4=>Ab rfl<|Aa.and 6 rfl rfl rfl (AP (A1 (Ae rfl))<|AP (A1 (Ae rfl))<|Bf (Bt (I:=(IT.int .i64)) (Ae rfl) (Ae rfl)) fun x5=>Bj.op (Er (Ae rfl) (Ae rfl)) fun x6=>Bj.op (Jl (Aw _) rfl rfl (Ae rfl) rfl rfl) fun x7=>Bf (A4 rfl (Ae rfl) AJ) fun x8=>Bj.nil (Ae rfl)) fun x9=>Ac<|Aa.cond (Ae rfl) (Aa.skip<|Ac<|A6<|Ab rfl<|Ag (Bt (I:=(IT.int .i64)) (Ae rfl) AJ) fun x10=>Ab rfl<|AI<|Aa.next x10 sB) (AQ<|Bv s1 sB)) (fun p2=>AR<|Ah<|Ab rfl<|Ab rfl<|Ac<|Aa.ret (.one (AA rfl)))
theorem Wt:Spec tb I7 [(Ay 8 (T.int .i64)),(T.int .i64)] [(T.int .i64)] (fun a=>Sp a.1 a.2):=
 Spec.of tJ rfl rfl rfl fV
noncomputable def Da:Nat→Int→Option AM |0,_=>none |n+1,a0=>if(decide (a0<16))=true then (Lw a0).bind fun x2=>some x2 else (if 16=0 then none else some (IntKind.i64.wrap (Int.tdiv a0 16))).bind fun x3=>(Da n x3).bind fun x4=>(if 16=0 then none else some (Int.tmod a0 16)).bind fun x5=>(Lw x5).bind fun x6=>(if x4.length+x6.length≤2*Be then some (x4++x6)else none).bind fun x7=>some x7
noncomputable def Y3(n:Nat)(ih:Spec tb E3 [(T.int .i64)] [Ax] (fun a=>Da n a))(a:BS [(T.int .i64)]):B6 tb Mx [(T.int .i64)] [Ax] a:=Ad<|Ai (A1 Ds)<|Ah<|Ad<|Ab rfl<|Ag (A4 rfl (Ae rfl) AJ) fun x1=>Ac<|Aa.cond (Ae rfl) (Ad<|Ab rfl<|Aa.op (A2 KV (.one (Ae rfl))) fun x2=>Ab rfl<|Ac<|Aa.ret (.one (AA rfl))) (Aa.skip<|Ah<|Ab rfl<|Aa.op (KT (I:=(IT.int .i64)) (Ae rfl) AJ) fun x3=>Aa.op (A2 ih (.one (Ae rfl))) fun x4=>Ab rfl<|Aa.op (iW (Ae rfl) AJ) fun x5=>Aa.op (A2 KV (.one (Ae rfl))) fun x6=>Aa.op (BR (Ae rfl) (Ae rfl)) fun x7=>Ab rfl<|Ac<|Aa.ret (.one (AA rfl)))
theorem Po: ∀n,Spec tb E3 [(T.int .i64)] [Ax] (fun a=>Da n a)
 |0=>Yc |n+1=>Spec.of jZ rfl rfl rfl (Y3 n (Po n))
noncomputable def Qd(a0:Int):Option AM:=ZK fun n=>Da n a0
theorem aZ:Spec tb E3 [(T.int .i64)] [Ax] (fun a=>Qd a):=aH Po
noncomputable def Qb(a0:(Ar Int 8))(a1:Int)(a2:Int):Option AM:=(iter (fun(s1:(AM×Int))=>if(decide (s1.2<a2))=true then (if(decide (a1<s1.2))=true then (if s1.1.length+[58].length≤2*Be then some (s1.1++[58])else none).bind fun x12=>some (.inl x12) else some (.inl s1.1):Option (AM⊕_)).bind (Sum.elim (fun(p5:AM)=>(DQ 8 s1.2).bind fun x7=>(a0.l[x7]?).bind fun x8=>(Qd x8).bind fun x9=>(if p5.length+x9.length≤2*Be then some (p5++x9)else none).bind fun x10=>some (.inl (x10,IntKind.i64.wrap (s1.2+1)))) some) else some (.inr (.inl s1.1))) ([],a1)).bind (Sum.elim (fun(p2:AM)=>some p2) some)
noncomputable def fW(a:BS [(Ay 8 (T.int .i64)),(T.int .i64),(T.int .i64)]):B6 tb Qs [(Ay 8 (T.int .i64)),(T.int .i64),(T.int .i64)] [Ax] a:=Ad<|Al (Bq (t:=(Ay 8 (T.int .i64))) 3 rfl rfl (Ae rfl)) fun _=>Ai (A1 Ds)<|Ah<|Ai (A1 Ds)<|Ah<|Ad<|Ab rfl<|Ab rfl<|Ac<|A6<|Aa.loop (id:=0) (σ:=(AM×Int)) (τ:=AM) (fun s1=>⟨[(1, .val (T.int .i64) a.2.1),(2, .val (T.int .i64) a.2.2),(3, .cp 3 0),(7, .val Ax s1.1),(8, .val (T.int .i64) s1.2)],[(3, .cells [(8, .val (Ay 8 (T.int .i64)) a.1)])]⟩) (fun p2=>⟨[(7, .val Ax p2)],[]⟩) ([],a.2.1) sB (fun _=>rfl) (fun s1=>Ad<|Ad<|Ab rfl<|Ab rfl<|Ag (A4 rfl (Ae rfl) (Ae rfl)) fun x3=>Ac<|Aa.cond (Ae rfl) (Aa.skip<|Ah<|A6<|Ad<|Ad<|Ab rfl<|Ab rfl<|Ag (A4 rfl (Ae rfl) (Ae rfl)) fun x4=>Ac<|Fi (τ:=AM) (fun p5=>⟨[(1, .val (T.int .i64) a.2.1),(2, .val (T.int .i64) a.2.2),(3, .cp 3 0),(7, .val Ax p5),(8, .val (T.int .i64) s1.2)],[(3, .cells [(8, .val (Ay 8 (T.int .i64)) a.1)])]⟩) (fun p5=>Ac<|Ab rfl<|Ab rfl<|Aa.op (Er (Ae rfl) (Ae rfl)) fun x7=>Aa.op (Jl (Aw _) rfl rfl (Ae rfl) rfl rfl) fun x8=>Aa.op (A2 aZ (.one (Ae rfl))) fun x9=>Aa.op (BR (Ae rfl) (Ae rfl)) fun x10=>Ab rfl<|AI<|Ac<|Ab rfl<|Ag (Bt (I:=(IT.int .i64)) (Ae rfl) AJ) fun x11=>Ab rfl<|Aa.next (x10,x11) sB)<|Aa.cond (Ae rfl) (Ab rfl<|Aa.op (BR (Ae rfl) Ds) fun x12=>Ab rfl<|DW x12 sB) (Aa.skip<|DW s1.1 sB)) (AQ<|Bv s1.1 sB)) (fun p2=>AR<|Ah<|Ab rfl<|Ab rfl<|Ac<|Aa.ret (.one (AA rfl)))
theorem Rh:Spec tb Hi [(Ay 8 (T.int .i64)),(T.int .i64),(T.int .i64)] [Ax] (fun a=>Qb a.1 a.2.1 a.2.2):=
 Spec.of tK rfl rfl rfl fW
noncomputable def Sq(a0:(Ar UInt8 16)):Option AM:=(NL a0).bind fun x2=>(iter (fun(s5:(Int×Int×Int))=>if(decide (s5.2.2<8))=true then (Sp x2 s5.2.2).bind fun x9=>if(decide (s5.2.1<x9))=true then (Sp x2 s5.2.2).bind fun x12=>some (.inl (s5.2.2,x12,IntKind.i64.wrap (s5.2.2+1))) else some (.inl (s5.1,s5.2.1,IntKind.i64.wrap (s5.2.2+1))) else some (.inr (.inl (s5.1,s5.2.1)))) (0,0,0)).bind (Sum.elim (fun(p6:(Int×Int))=>if(decide (p6.2<2))=true then (Qb x2 0 8).bind fun x17=>some x17 else (Qb x2 0 p6.1).bind fun x19=>(if x19.length+[58,58].length≤2*Be then some (x19++[58,58])else none).bind fun x20=>(Qb x2 (IntKind.i64.wrap (p6.1+p6.2)) 8).bind fun x23=>(if x20.length+x23.length≤2*Be then some (x20++x23)else none).bind fun x24=>some x24) some)
noncomputable def bT(a:BS [(Ay 16 T.u8)]):B6 tb O9 [(Ay 16 T.u8)] [Ax] a:=Ad<|Al (Bq (t:=(Ay 16 T.u8)) 1 rfl rfl (Ae rfl)) fun _=>Ai (A1 Ds)<|Ah<|An (A3 (t:=(Ay 16 T.u8)) (u:=(Ay 16 T.u8)) (Ae rfl) rfl rfl (Aw _) rfl rfl) fun x1=>Aa.op (A2 Ym (.one (Ae rfl))) fun x2=>Al (BZ (t:=(Ay 8 (T.int .i64))) 3 rfl rfl) fun x3=>Al (CV (Ae rfl) (Ae rfl) rfl rfl (Aw _) rfl) fun x4=>Ah<|Ai (A1 AJ)<|Ah<|Ai (A1 AJ)<|Ah<|Ad<|Ai (A1 AJ)<|Ac<|A6<|Aa.loop (id:=0) (σ:=(Int×Int×Int)) (τ:=(Int×Int)) (fun s5=>⟨[(3, .cp 3 0),(4, .val (T.int .i64) s5.1),(5, .val (T.int .i64) s5.2.1),(6, .val (T.int .i64) s5.2.2)],[(3, .cells [(8, .val (Ay 8 (T.int .i64)) x4)])]⟩) (fun p6=>⟨[(3, .cp 3 0),(4, .val (T.int .i64) p6.1),(5, .val (T.int .i64) p6.2)],[(3, .cells [(8, .val (Ay 8 (T.int .i64)) x4)])]⟩) (0,0,0) sB (fun _=>rfl) (fun s5=>Ad<|Ad<|Ab rfl<|Ag (A4 rfl (Ae rfl) AJ) fun x7=>Ac<|Aa.cond (Ae rfl) (Aa.skip<|Ah<|A6<|Ad<|An (A3 (t:=(Ay 8 (T.int .i64))) (u:=(Ay 8 (T.int .i64))) (Ae rfl) rfl rfl (Aw _) rfl rfl) fun x8=>Ab rfl<|Aa.op (A2 Wt (.cons (Ae rfl)<| .one (Ae rfl))) fun x9=>Ab rfl<|Ag (A4 rfl (Ae rfl) (Ae rfl)) fun x10=>Ac<|Aa.cond (Ae rfl) (Ad<|Ab rfl<|Ab rfl<|Ac<|An (A3 (t:=(Ay 8 (T.int .i64))) (u:=(Ay 8 (T.int .i64))) (Ae rfl) rfl rfl (Aw _) rfl rfl) fun x11=>Ab rfl<|Aa.op (A2 Wt (.cons (Ae rfl)<| .one (Ae rfl))) fun x12=>Ab rfl<|AI<|Ac<|Ab rfl<|Ag (Bt (I:=(IT.int .i64)) (Ae rfl) AJ) fun x13=>Ab rfl<|Aa.next (s5.2.2,x12,x13) sB) (Aa.skip<|AI<|Ac<|Ab rfl<|Ag (Bt (I:=(IT.int .i64)) (Ae rfl) AJ) fun x14=>
 Ab rfl<|Aa.next (s5.1,s5.2.1,x14) sB)) (AQ<|Bv (s5.1,s5.2.1) sB)) (fun p6=>AR<|Ah<|Ad<|Ab rfl<|Ag (A4 rfl (Ae rfl) AJ) fun x15=>Ac<|Aa.cond (Ae rfl) (Ad<|An (A3 (t:=(Ay 8 (T.int .i64))) (u:=(Ay 8 (T.int .i64))) (Ae rfl) rfl rfl (Aw _) rfl rfl) fun x16=>Aa.op (A2 Rh (.cons (Ae rfl)<| .cons AJ<| .one AJ)) fun x17=>Ab rfl<|Ac<|Aa.ret (.one (AA rfl))) (Aa.skip<|Ah<|An (A3 (t:=(Ay 8 (T.int .i64))) (u:=(Ay 8 (T.int .i64))) (Ae rfl) rfl rfl (Aw _) rfl rfl) fun x18=>Ab rfl<|Aa.op (A2 Rh (.cons (Ae rfl)<| .cons AJ<| .one (Ae rfl))) fun x19=>Aa.op (BR (Ae rfl) Ds) fun x20=>An (A3 (t:=(Ay 8 (T.int .i64))) (u:=(Ay 8 (T.int .i64))) (Ae rfl) rfl rfl (Aw _) rfl rfl) fun x21=>Ab rfl<|Ab rfl<|Ag (Bt (I:=(IT.int .i64)) (Ae rfl) (Ae rfl)) fun x22=>Aa.op (A2 Rh (.cons (Ae rfl)<| .cons (Ae rfl)<| .one AJ)) fun x23=>Aa.op (BR (Ae rfl) (Ae rfl)) fun x24=>Ab rfl<|Ac<|Aa.ret (.one (AA rfl))))
theorem fQ:Spec tb IV [(Ay 16 T.u8)] [Ax] (fun a=>Sq a):=
 Spec.of nU rfl rfl rfl bT
noncomputable def Sr(a0:(Ar UInt8 4)):Option AM:=(DQ 4 0).bind fun x1=>(a0.l[x1]?).bind fun x2=>(FN (BQ (x2.toNat:Int))).bind fun x4=>(iter (fun(s5:(AM×Int))=>if(decide (s5.2<4))=true then (if s5.1.length+[46].length≤2*Be then some (s5.1++[46])else none).bind fun x8=>(DQ 4 s5.2).bind fun x9=>(a0.l[x9]?).bind fun x10=>(FN (BQ (x10.toNat:Int))).bind fun x12=>(if x8.length+x12.length≤2*Be then some (x8++x12)else none).bind fun x13=>some (.inl (x13,IntKind.i64.wrap (s5.2+1))) else some (.inr (.inl s5.1))) (x4,1)).bind (Sum.elim (fun(p6:AM)=>some p6) some)
noncomputable def bU(a:BS [(Ay 4 T.u8)]):B6 tb OA [(Ay 4 T.u8)] [Ax] a:=Ad<|Al (Bq (t:=(Ay 4 T.u8)) 1 rfl rfl (Ae rfl)) fun _=>Ai (A1 Ds)<|Ah<|Aa.op (Er (Ae rfl) AJ) fun x1=>Aa.op (Jl (Aw _) rfl rfl (Ae rfl) rfl rfl) fun x2=>Ag (DL (I:=IT.u8) (J:=IT.u64) rfl (Ae rfl)) fun x3=>Aa.op (A2 IF (.one (Ae rfl))) fun x4=>Ab rfl<|Ah<|Ad<|Ai (A1 AJ)<|Ac<|A6<|Aa.loop (id:=0) (σ:=(AM×Int)) (τ:=AM) (fun s5=>⟨[(1, .cp 1 0),(3, .val Ax s5.1),(4, .val (T.int .i64) s5.2)],[(1, .cells [(4, .val (Ay 4 T.u8) a)])]⟩) (fun p6=>⟨[(3, .val Ax p6)],[]⟩) (x4,1) sB (fun _=>rfl) (fun s5=>Ad<|Ad<|Ab rfl<|Ag (A4 rfl (Ae rfl) AJ) fun x7=>Ac<|Aa.cond (Ae rfl) (Aa.skip<|Ah<|A6<|Ab rfl<|Aa.op (BR (Ae rfl) Ds) fun x8=>Ab rfl<|Aa.op (Er (Ae rfl) (Ae rfl)) fun x9=>Aa.op (Jl (Aw _) rfl rfl (Ae rfl) rfl rfl) fun x10=>Ag (DL (I:=IT.u8) (J:=IT.u64) rfl (Ae rfl)) fun x11=>Aa.op (A2 IF (.one (Ae rfl))) fun x12=>Aa.op (BR (Ae rfl) (Ae rfl)) fun x13=>Ab rfl<|AI<|Ac<|Ab rfl<|Ag (Bt (I:=(IT.int .i64)) (Ae rfl) AJ) fun x14=>Ab rfl<|Aa.next (x13,x14) sB) (AQ<|Bv s5.1 sB)) (fun p6=>AR<|Ah<|Ab rfl<|Ab rfl<|Ac<|Aa.ret (.one (AA rfl)))
theorem fR:Spec tb IW [(Ay 4 T.u8)] [Ax] (fun a=>Sr a):=
 Spec.of nV rfl rfl rfl bU
noncomputable def Ng(a0:AB):Option AM:=(II a0).bind fun x2=>if(!x2)=true then some [] else if(decide (a0.V=6))=true then (Sq a0.B).bind fun x7=>some x7 else (DQ 16 0).bind fun x8=>(a0.B.l[x8]?).bind fun x9=>(DQ 16 1).bind fun x10=>(a0.B.l[x10]?).bind fun x11=>(DQ 16 2).bind fun x12=>(a0.B.l[x12]?).bind fun x13=>(DQ 16 3).bind fun x14=>(a0.B.l[x14]?).bind fun x15=>(Sr (⟨[x9,x11,x13,x15],rfl⟩:(Ar UInt8 4))).bind fun x17=>some x17
noncomputable def bQ(a:BS [Ak]):B6 tb O6 [Ak] [Ax] a:=Ad<|Al (Bq (t:=Ak) 1 rfl rfl (Ae rfl)) fun _=>Ai (A1 Ds)<|Ah<|Ad<|An (A3 (t:=Ak) (u:=Ak) (Ae rfl) rfl rfl (Aw _) rfl rfl) fun x1=>Aa.op (A2 Jd (.one (Ae rfl))) fun x2=>Ag (EQ (Ae rfl)) fun x3=>Ac<|Aa.cond (Ae rfl) (Ad<|Ai (A1 Ds)<|Ac<|Aa.ret (.one (AA rfl))) (Aa.skip<|Ah<|Ad<|Ai (AE (Ae rfl))<|An (A3 (t:=Ak) (u:=(T.int .i64)) (Ae rfl) rfl rfl B8 rfl rfl) fun x4=>Ag (A4 rfl (Ae rfl) AJ) fun x5=>Ac<|Aa.cond (Ae rfl) (Ad<|Ai (AE (Ae rfl))<|An (A3 (t:=Ak) (u:=(Ay 16 T.u8)) (Ae rfl) rfl rfl B5 rfl rfl) fun x6=>Aa.op (A2 fQ (.one (Ae rfl))) fun x7=>Ab rfl<|Ac<|Aa.ret (.one (AA rfl))) (Aa.skip<|Ah<|Ai (AE (Ae rfl))<|Aa.op (Er (Ae rfl) AJ) fun x8=>Aa.op (Jl B5 rfl rfl (Ae rfl) rfl rfl) fun x9=>Ai (AE (Ae rfl))<|Aa.op (Er (Ae rfl) AJ) fun x10=>Aa.op (Jl B5 rfl rfl (Ae rfl) rfl rfl) fun x11=>Ai (AE (Ae rfl))<|Aa.op (Er (Ae rfl) AJ) fun x12=>Aa.op (Jl B5 rfl rfl (Ae rfl) rfl rfl) fun x13=>Ai (AE (Ae rfl))<|Aa.op (Er (Ae rfl) AJ) fun x14=>Aa.op (Jl B5 rfl rfl (Ae rfl) rfl rfl) fun x15=>An (dG (t:=T.u8) (⟨[x9,x11,x13,x15],rfl⟩:(Ar UInt8 4)) rfl (.cons (AL.at 4 T.u8 0 (by decide)) rfl (Ae rfl)<| .cons (AL.at 4 T.u8 1 (by decide)) rfl (Ae rfl)<| .cons (AL.at 4 T.u8 2 (by decide)) rfl (Ae rfl)<| .cons (AL.at 4 T.u8 3 (by decide)) rfl (Ae rfl)<| .nil _)) fun x16=>Aa.op (A2 fR (.one (Ae rfl))) fun x17=>Ab rfl<|Ac<|Aa.ret (.one (AA rfl))))
theorem Pn:Spec tb Ge [Ak] [Ax] (fun a=>Ng a):=
 Spec.of nR rfl rfl rfl bQ
noncomputable def Pu(a0:AF):Option AM:=(Lv a0).bind fun x2=>if(!x2)=true then some [] else (FN (BQ a0.Port)).bind fun x6=>(if [58].length+x6.length≤2*Be then some ([58]++x6)else none).bind fun x7=>if(decide (a0.A.V=6))=true then (Ng a0.A).bind fun x11=>(if [91].length+x11.length≤2*Be then some ([91]++x11)else none).bind fun x12=>(if x12.length+[93].length≤2*Be then some (x12++[93])else none).bind fun x13=>(if x13.length+x7.length≤2*Be then some (x13++x7)else none).bind fun x14=>some x14 else (Ng a0.A).bind fun x16=>(if x16.length+x7.length≤2*Be then some (x16++x7)else none).bind fun x17=>some x17
noncomputable def bN(a:BS [Ao]):B6 tb O3 [Ao] [Ax] a:=Ad<|Al (Bq (t:=Ao) 1 rfl rfl (Ae rfl)) fun _=>Ai (A1 Ds)<|Ah<|Ad<|An (A3 (t:=Ao) (u:=Ao) (Ae rfl) rfl rfl (Aw _) rfl rfl) fun x1=>Aa.op (A2 RN (.one (Ae rfl))) fun x2=>Ag (EQ (Ae rfl)) fun x3=>Ac<|Aa.cond (Ae rfl) (Ad<|Ai (A1 Ds)<|Ac<|Aa.ret (.one (AA rfl))) (Aa.skip<|Ah<|Ai (AE (Ae rfl))<|An (A3 (t:=Ao) (u:=(T.int .i64)) (Ae rfl) rfl rfl DF rfl rfl) fun x4=>Ag (DL (I:=(IT.int .i64)) (J:=IT.u64) rfl (Ae rfl)) fun x5=>Aa.op (A2 IF (.one (Ae rfl))) fun x6=>Aa.op (BR Ds (Ae rfl)) fun x7=>Ab rfl<|Ah<|Ad<|Ai (AE (Ae rfl))<|Ai (AE (Ae rfl))<|An (A3 (t:=Ao) (u:=(T.int .i64)) (Ae rfl) rfl rfl (J0 Dz B8) rfl rfl) fun x8=>Ag (A4 rfl (Ae rfl) AJ) fun x9=>Ac<|Aa.cond (Ae rfl) (Ad<|Ai (AE (Ae rfl))<|An (A3 (t:=Ao) (u:=Ak) (Ae rfl) rfl rfl Dz rfl rfl) fun x10=>Aa.op (A2 Pn (.one (Ae rfl))) fun x11=>Aa.op (BR Ds (Ae rfl)) fun x12=>Aa.op (BR (Ae rfl) Ds) fun x13=>Ab rfl<|Aa.op (BR (Ae rfl) (Ae rfl)) fun x14=>Ab rfl<|Ac<|Aa.ret (.one (AA rfl))) (Aa.skip<|Ah<|Ai (AE (Ae rfl))<|An (A3 (t:=Ao) (u:=Ak) (Ae rfl) rfl rfl Dz rfl rfl) fun x15=>Aa.op (A2 Pn (.one (Ae rfl))) fun x16=>Ab rfl<|Aa.op (BR (Ae rfl) (Ae rfl)) fun x17=>Ab rfl<|Ac<|Aa.ret (.one (AA rfl))))
theorem fI:Spec tb IP [Ao] [Ax] (fun a=>Pu a):=
 Spec.of nO rfl rfl rfl bN
noncomputable def Pv(a0:Aq):Option AM:=(JJ a0).bind fun x2=>if(!x2)=true then some [] else (Ng a0.A).bind fun x5=>(if x5.length+[47].length≤2*Be then some (x5++[47])else none).bind fun x6=>(FN (BQ a0.Bits)).bind fun x9=>(if x6.length+x9.length≤2*Be then some (x6++x9)else none).bind fun x10=>some x10
noncomputable def bO(a:BS [Aj]):B6 tb O4 [Aj] [Ax] a:=Ad<|Al (Bq (t:=Aj) 1 rfl rfl (Ae rfl)) fun _=>Ai (A1 Ds)<|Ah<|Ad<|An (A3 (t:=Aj) (u:=Aj) (Ae rfl) rfl rfl (Aw _) rfl rfl) fun x1=>Aa.op (A2 RO (.one (Ae rfl))) fun x2=>Ag (EQ (Ae rfl)) fun x3=>Ac<|Aa.cond (Ae rfl) (Ad<|Ai (A1 Ds)<|Ac<|Aa.ret (.one (AA rfl))) (Aa.skip<|Ah<|Ai (AE (Ae rfl))<|An (A3 (t:=Aj) (u:=Ak) (Ae rfl) rfl rfl BC rfl rfl) fun x4=>Aa.op (A2 Pn (.one (Ae rfl))) fun x5=>Aa.op (BR (Ae rfl) Ds) fun x6=>Ai (AE (Ae rfl))<|An (A3 (t:=Aj) (u:=(T.int .i64)) (Ae rfl) rfl rfl Cc rfl rfl) fun x7=>Ag (DL (I:=(IT.int .i64)) (J:=IT.u64) rfl (Ae rfl)) fun x8=>Aa.op (A2 IF (.one (Ae rfl))) fun x9=>Aa.op (BR (Ae rfl) (Ae rfl)) fun x10=>Ab rfl<|Ac<|Aa.ret (.one (AA rfl)))
theorem fJ:Spec tb IQ [Aj] [Ax] (fun a=>Pv a):=
 Spec.of nP rfl rfl rfl bO
noncomputable def gF(a0:Int):Option Bool:=(HZ (decide (a0=4)) (some (decide (a0=6)))).bind fun x3=>(HZ x3 (some (decide (a0=7)))).bind fun x5=>(HZ x5 (some (decide (a0=11)))).bind fun x7=>some x7
noncomputable def bJ(a:BS [(T.int .i64)]):B6 tb Oz [(T.int .i64)] [T.b] a:=Ad<|Ai (A1 Hw)<|Ah<|Ab rfl<|Ag (A4 rfl (Ae rfl) AJ) fun x1=>Ab rfl<|Aa.or 2 rfl rfl rfl (AP (A1 (Ae rfl))<|Bf (A4 rfl (Ae rfl) AJ) fun x2=>Bj.nil (Ae rfl)) fun x3=>Ab rfl<|Aa.or 2 rfl rfl rfl (AP (A1 (Ae rfl))<|Bf (A4 rfl (Ae rfl) AJ) fun x4=>Bj.nil (Ae rfl)) fun x5=>Ab rfl<|Aa.or 2 rfl rfl rfl (AP (A1 (Ae rfl))<|Bf (A4 rfl (Ae rfl) AJ) fun x6=>Bj.nil (Ae rfl)) fun x7=>Ab rfl<|Ac<|Aa.ret (.one (AA rfl))
theorem fF:Spec tb IL [(T.int .i64)] [T.b] (fun a=>gF a):=
 Spec.of nK rfl rfl rfl bJ
noncomputable def PW(_:Unit):Option (GS AM):=some (GS.mk [[],[112,114,105,118,97,116,101,95,107,101,121],[108,105,115,116,101,110,95,112,111,114,116],[102,119,109,97,114,107],[114,101,112,108,97,99,101,95,112,101,101,114,115],[112,117,98,108,105,99,95,107,101,121],[114,101,109,111,118,101],[117,112,100,97,116,101,95,111,110,108,121],[112,114,101,115,104,97,114,101,100,95,107,101,121],[101,110,100,112,111,105,110,116],[112,101,114,115,105,115,116,101,110,116,95,107,101,101,112,97,108,105,118,101,95,105,110,116,101,114,118,97,108],[114,101,112,108,97,99,101,95,97,108,108,111,119,101,100,95,105,112,115],[97,108,108,111,119,101,100,95,105,112],[112,114,111,116,111,99,111,108,95,118,101,114,115,105,111,110],[116,120,95,98,121,116,101,115],[114,120,95,98,121,116,101,115],[101,114,114,110,111]])
noncomputable def Yr(a:BS []):B6 tb Ml [] [(T.sl Ax)] a:=Ad<|Ai (A1 (KE (t:=Ax)))<|Ah<|Al (qW (t:=Ax) (n:=17) 1000 rfl rfl (.cons rfl Ds<| .cons rfl Ds<| .cons rfl Ds<| .cons rfl Ds<| .cons rfl Ds<| .cons rfl Ds<| .cons rfl Ds<| .cons rfl Ds<| .cons rfl Ds<| .cons rfl Ds<| .cons rfl Ds<| .cons rfl Ds<| .cons rfl Ds<| .cons rfl Ds<| .cons rfl Ds<| .cons rfl Ds<| .cons rfl Ds<| .nil _) rfl) fun x1=>Ab rfl<|Ac<|Aa.frzRow 1000 rfl rfl<|Aa.ret (.one (AA rfl))
theorem aT:Spec tb H3 [] [(T.sl Ax)] (fun a=>PW ()):=
 Spec.of jN rfl rfl rfl Yr
noncomputable def WK(a0:Ap):Option Bm:=(pE a0.Word).bind fun x3=>(if x3=true then (Nh a0.Key).bind fun x13=>(LC x13).bind fun x14=>some (.inl x14) else if(decide (a0.Word=9))=true then (Pu a0.End).bind fun x18=>some (.inl x18) else if(decide (a0.Word=12))=true then (Pv a0.P).bind fun x22=>some (.inl x22) else (gF a0.Word).bind fun x24=>if(!x24)=true then (FN a0.N).bind fun x27=>some (.inl x27) else some (.inl [116,114,117,101]):Option (AM⊕_)).bind (Sum.elim (fun(p4:AM)=>(PW ()).bind fun x6=>(Fo x6.l a0.Word).bind fun x8=>some (⟨x8,p4⟩:Bm)) some)
noncomputable def bK(a:BS [Af]):B6 tb O0 [Af] [C2] a:=Ad<|Al (Bq (t:=Af) 1 rfl rfl (Ae rfl)) fun _=>Al (BZ (t:=C2) 2 rfl rfl) fun x1=>Ah<|Ai (A1 Ds)<|Ah<|Ad<|Ai (AE (Ae rfl))<|An (A3 (t:=Af) (u:=(T.int .i64)) (Ae rfl) rfl rfl Az rfl rfl) fun x2=>Aa.op (A2 lJ (.one (Ae rfl))) fun x3=>Ac<|Fi (τ:=AM) (fun p4=>⟨[(1, .cp 1 0),(2, .cp 2 0),(3, .val Ax p4)],[(1, .cells [(70, .val Af a)]),(2, .cells [(2, .val C2 x1)])]⟩) (fun p4=>Ah<|Aa.regd 1<|A9.op rfl (A2 aT (.nil)) fun x6=>A8 rfl (AE (Ae rfl))<|DM rfl (A3 (t:=Af) (u:=(T.int .i64)) (Ae rfl) rfl rfl Az rfl rfl) fun x7=>A9.op rfl (FO rfl (Ae rfl) (Ae rfl)) fun x8=>DM rfl (Ja rfl rfl (Ae rfl)) fun x9=>A8 rfl (A1 (Ae rfl))<|B0 rfl (Cy rfl rfl (.cons Hr rfl (Ae rfl)<| .cons JV rfl (Ae rfl)<| .nil _)) fun x10=>uE rfl (fun _=> .nil) (.nil) (CV (Ae rfl) (Ae rfl) rfl rfl (Aw _) rfl) fun x11=>CA<|Ac<|Aa.ret (.one (GR rfl rfl rfl (Aw _) rfl rfl)))<|Aa.cond (Ae rfl) (Ai (AE (Ae rfl))<|An (A3 (t:=Af) (u:=(Ay 32 T.u8)) (Ae rfl) rfl rfl Dr rfl rfl) fun x12=>Aa.op (A2 aX (.one (Ae rfl))) fun x13=>Aa.op (A2 Yn (.one (Ae rfl))) fun x14=>Ab rfl<|DW x14 sB) (Ad<|Ai (AE (Ae rfl))<|An (A3 (t:=Af) (u:=(T.int .i64)) (Ae rfl) rfl rfl Az rfl rfl) fun x15=>Ag (A4 rfl (Ae rfl) AJ) fun x16=>Ac<|Aa.cond (Ae rfl) (Ai (AE (Ae rfl))<|An (A3 (t:=Af) (u:=Ao) (Ae rfl) rfl rfl Fj rfl rfl) fun x17=>Aa.op (A2 fI (.one (Ae rfl))) fun x18=>Ab rfl<|DW x18 sB) (Ad<|Ai (AE (Ae rfl))<|An (A3 (t:=Af) (u:=(T.int .i64)) (Ae rfl) rfl rfl Az rfl rfl) fun x19=>Ag (A4 rfl (Ae rfl) AJ) fun x20=>
 Ac<|Aa.cond (Ae rfl) (Ai (AE (Ae rfl))<|An (A3 (t:=Af) (u:=Aj) (Ae rfl) rfl rfl GO rfl rfl) fun x21=>Aa.op (A2 fJ (.one (Ae rfl))) fun x22=>Ab rfl<|DW x22 sB) (Ad<|Ai (AE (Ae rfl))<|An (A3 (t:=Af) (u:=(T.int .i64)) (Ae rfl) rfl rfl Az rfl rfl) fun x23=>Aa.op (A2 fF (.one (Ae rfl))) fun x24=>Ag (EQ (Ae rfl)) fun x25=>Ac<|Aa.cond (Ae rfl) (Ai (AE (Ae rfl))<|An (A3 (t:=Af) (u:=T.u64) (Ae rfl) rfl rfl By rfl rfl) fun x26=>Aa.op (A2 IF (.one (Ae rfl))) fun x27=>Ab rfl<|DW x27 sB) (Aa.skip<|DW [116,114,117,101] sB))))
theorem fG:Spec tb IM [Af] [C2] (fun a=>WK a):=
 Spec.of nL rfl rfl rfl bK
noncomputable def PX(a0:AM)(a1:UInt8):Option Bool:=(Ni a0 a1).bind fun x1=>some (decide (1<(x1.l.length:Int)))
noncomputable def fU(a:BS [Ax,T.u8]):B6 tb Qq [Ax,T.u8] [T.b] a:=Ad<|Ai (A1 Hw)<|Ah<|Ab rfl<|Ab rfl<|Aa.op (A2 RQ (.cons (Ae rfl)<| .one (Ae rfl))) fun x1=>Ag (Ez (Ae rfl)) fun x2=>Ag (A4 rfl (Ae rfl) AJ) fun x3=>Ab rfl<|Ac<|Aa.ret (.one (AA rfl))
theorem Rg:Spec tb Hg [Ax,T.u8] [T.b] (fun a=>PX a.1 a.2):=
 Spec.of tI rfl rfl rfl fU
noncomputable def Sm(a0:Bm):Option (AM×Int):=(HZ (decide (a0.Key=[])) ((PX a0.Key (61:UInt8)).bind fun x4=>some x4)).bind fun x5=>(HZ x5 ((PX a0.Key (10:UInt8)).bind fun x7=>some x7)).bind fun x8=>(HZ x8 ((PX a0.Value (10:UInt8)).bind fun x10=>some x10)).bind fun x11=>if x11=true then some ([],5) else (if a0.Key.length+[61].length≤2*Be then some (a0.Key++[61])else none).bind fun x13=>(if x13.length+a0.Value.length≤2*Be then some (x13++a0.Value)else none).bind fun x15=>if(decide (512<(x15.length:Int)))=true then some ([],4) else some (x15,0)
noncomputable def bL(a:BS [C2]):B6 tb O1 [C2] [Ax,(T.int .i64)] a:=Ad<|Al (Bq (t:=C2) 1 rfl rfl (Ae rfl)) fun _=>Ai (A1 Ds)<|Ai (A1 AJ)<|Ah<|Ad<|Ai (AE (Ae rfl))<|An (A3 (t:=C2) (u:=Ax) (Ae rfl) rfl rfl Hr rfl rfl) fun x1=>Ag (MG (Ae rfl) Ds) fun x2=>Ab rfl<|Aa.or 3 rfl rfl rfl (AP (AE (Ae rfl))<|Ca (A3 (t:=C2) (u:=Ax) (Ae rfl) rfl rfl Hr rfl rfl) fun x3=>Bj.op (A2 Rg (.cons (Ae rfl)<| .one (gP 61 rfl))) fun x4=>Bj.nil (Ae rfl)) fun x5=>Ab rfl<|Aa.or 3 rfl rfl rfl (AP (AE (Ae rfl))<|Ca (A3 (t:=C2) (u:=Ax) (Ae rfl) rfl rfl Hr rfl rfl) fun x6=>Bj.op (A2 Rg (.cons (Ae rfl)<| .one (gP 10 rfl))) fun x7=>Bj.nil (Ae rfl)) fun x8=>Ab rfl<|Aa.or 3 rfl rfl rfl (AP (AE (Ae rfl))<|Ca (A3 (t:=C2) (u:=Ax) (Ae rfl) rfl rfl JV rfl rfl) fun x9=>Bj.op (A2 Rg (.cons (Ae rfl)<| .one (gP 10 rfl))) fun x10=>Bj.nil (Ae rfl)) fun x11=>Ac<|Aa.cond (Ae rfl) (Ad<|Ai (A1 Ds)<|Ai (A1 AJ)<|Ac<|Aa.ret (.cons (AA rfl)<| .one (AA rfl))) (Aa.skip<|Ah<|Ai (AE (Ae rfl))<|An (A3 (t:=C2) (u:=Ax) (Ae rfl) rfl rfl Hr rfl rfl) fun x12=>Aa.op (BR (Ae rfl) Ds) fun x13=>Ai (AE (Ae rfl))<|An (A3 (t:=C2) (u:=Ax) (Ae rfl) rfl rfl JV rfl rfl) fun x14=>Aa.op (BR (Ae rfl) (Ae rfl)) fun x15=>Ab rfl<|Ah<|Ad<|Ab rfl<|Ag (F3 (Ae rfl)) fun x16=>Ag (A4 rfl (Ae rfl) AJ) fun x17=>Ac<|Aa.cond (Ae rfl) (Ad<|Ai (A1 Ds)<|Ai (A1 AJ)<|Ac<|Aa.ret (.cons (AA rfl)<| .one (AA rfl))) (Aa.skip<|Ah<|Ab rfl<|Ab rfl<|Ai (A1 AJ)<|Ac<|Aa.ret (.cons (AA rfl)<| .one (AA rfl))))
theorem fH:Spec tb IN [C2] [Ax,(T.int .i64)] (fun a=>Sm a):=
 Spec.of nM rfl rfl rfl bL
noncomputable def Eh(a0:Ap):Option AM:=(WK a0).bind fun x2=>(Sm x2).bind fun x3=>(if x3.1.length+[10].length≤2*Be then some (x3.1++[10])else none).bind fun x6=>some x6
noncomputable def bH(a:BS [Af]):B6 tb Ox [Af] [Ax] a:=Ad<|Al (Bq (t:=Af) 1 rfl rfl (Ae rfl)) fun _=>Ai (A1 Ds)<|Ah<|An (A3 (t:=Af) (u:=Af) (Ae rfl) rfl rfl (Aw _) rfl rfl) fun x1=>Aa.op (A2 fG (.one (Ae rfl))) fun x2=>Aa.op (Ik fH (.one (Ae rfl))) fun x3=>Ab rfl<|An (Ci (Ae rfl) rfl) fun x4=>An (Ci (Ae rfl) rfl) fun x5=>Ab rfl<|Ab rfl<|Ah<|Ab rfl<|Aa.op (BR (Ae rfl) Ds) fun x6=>Ab rfl<|Ac<|Aa.ret (.one (AA rfl))
theorem Eg:Spec tb Cz [Af] [Ax] (fun a=>Eh a):=
 Spec.of nI rfl rfl rfl bH
noncomputable def IG(a0:Int):Option AM:=(HZ (decide (a0<0)) (some (decide (20<a0)))).bind fun x3=>(fun(k5:Int→Option _)=>if x3=true then k5 1 else k5 a0) fun p4=>(FN (IT.u64.ofI p4)).bind fun x7=>(if [101,114,114,110,111,61].length+x7.length≤2*Be then some ([101,114,114,110,111,61]++x7)else none).bind fun x8=>(if x8.length+[10,10].length≤2*Be then some (x8++[10,10])else none).bind fun x9=>some x9
noncomputable def Vg(a:BS [(T.int .i64)]):B6 tb Kh [(T.int .i64)] [Ax] a:=Ad<|Ai (A1 Ds)<|Ah<|Ad<|Ab rfl<|Ag (A4 rfl (Ae rfl) AJ) fun x1=>Ab rfl<|Aa.or 2 rfl rfl rfl (AP (A1 (Ae rfl))<|Bf (A4 rfl (Ae rfl) AJ) fun x2=>Bj.nil (Ae rfl)) fun x3=>Ac<|Hq (τ:=Int) (fun p4=>⟨[(0, .val (T.int .i64) p4)],[]⟩) (fun p4=>Ah<|Ab rfl<|Ag (DL (I:=(IT.int .i64)) (J:=IT.u64) rfl (Ae rfl)) fun x6=>Aa.op (A2 IF (.one (Ae rfl))) fun x7=>Aa.op (BR Ds (Ae rfl)) fun x8=>Aa.op (BR (Ae rfl) Ds) fun x9=>Ab rfl<|Ac<|Aa.ret (.one (AA rfl))) fun k5=>Aa.cond (Ae rfl) (Ai (A1 AJ)<|Aa.weak (k5 1) sB) (Aa.skip<|Aa.weak (k5 a) sB)
theorem Ws:Spec tb FQ [(T.int .i64)] [Ax] (fun a=>IG a):=
 Spec.of YS rfl rfl rfl Vg
noncomputable def Sl(a0:B4):Option (AM×Bool):=(PY a0).bind fun x2=>if(!x2)=true then some ([],false) else let x5:=(⟨1,a0.Private,0,Ao.z,Aj.z⟩:Ap);(Eh x5).bind fun x6=>let x9:=(⟨2,(Ay 32 T.u8).z,BQ a0.Port,Ao.z,Aj.z⟩:Ap);(Eh x9).bind fun x10=>(if x6.length+x10.length≤2*Be then some (x6++x10)else none).bind fun x11=>let x14:=(⟨3,(Ay 32 T.u8).z,BQ (a0.Mark.toNat:Int),Ao.z,Aj.z⟩:Ap);(Eh x14).bind fun x15=>(if x11.length+x15.length≤2*Be then some (x11++x15)else none).bind fun x16=>(iter (fun(s17:(AM×Int))=>if(decide (s17.2<(a0.Peers.l.length:Int)))=true then (Fo a0.Peers.l s17.2).bind fun x23=>let x28:=(⟨5,x23.Key,0,Ao.z,Aj.z⟩:Ap);(Eh x28).bind fun x29=>(if s17.1.length+x29.length≤2*Be then some (s17.1++x29)else none).bind fun x30=>let x32:=(⟨8,x23.Psk,0,Ao.z,Aj.z⟩:Ap);(Eh x32).bind fun x33=>(if x30.length+x33.length≤2*Be then some (x30++x33)else none).bind fun x34=>let x35:=(⟨13,(Ay 32 T.u8).z,(1:UInt64),Ao.z,Aj.z⟩:Ap);(Eh x35).bind fun x36=>(if x34.length+x36.length≤2*Be then some (x34++x36)else none).bind fun x37=>let x40:= !(HH Cu x23.End (⟨Ak.z,0⟩:AF));(if x40=true then let x70:=(⟨9,(Ay 32 T.u8).z,0,x23.End,Aj.z⟩:Ap);(Eh x70).bind fun x71=>(if x37.length+x71.length≤2*Be then some (x37++x71)else none).bind fun x72=>some (.inl x72) else some (.inl x37):Option (AM⊕_)).bind (Sum.elim (fun(p41:AM)=>let x44:=(⟨14,(Ay 32 T.u8).z,x23.Sent,Ao.z,Aj.z⟩:Ap);(Eh x44).bind fun x45=>(if p41.length+x45.length≤2*Be then some (p41++x45)else none).bind fun x46=>let x48:=(⟨15,(Ay 32 T.u8).z,x23.Got,Ao.z,Aj.z⟩:Ap)
 (Eh x48).bind fun x49=>(if x46.length+x49.length≤2*Be then some (x46++x49)else none).bind fun x50=>let x53:=(⟨10,(Ay 32 T.u8).z,BQ x23.Keep,Ao.z,Aj.z⟩:Ap);(Eh x53).bind fun x54=>(if x50.length+x54.length≤2*Be then some (x50++x54)else none).bind fun x55=>(iter (fun(s56:(AM×Int))=>if(decide (s56.2<(x23.Allowed.l.length:Int)))=true then (Fo x23.Allowed.l s56.2).bind fun x62=>let x64:=(⟨12,(Ay 32 T.u8).z,0,Ao.z,x62⟩:Ap);(Eh x64).bind fun x65=>(if s56.1.length+x65.length≤2*Be then some (s56.1++x65)else none).bind fun x66=>some (.inl (x66,IntKind.i64.wrap (s56.2+1))) else some (.inr (.inl s56.1))) (x55,0)).bind (Sum.elim (fun(p57:AM)=>some (.inl (p57,IntKind.i64.wrap (s17.2+1)))) some)) some) else some (.inr (.inl s17.1))) (x16,0)).bind (Sum.elim (fun(p18:AM)=>(IG 0).bind fun x73=>(if p18.length+x73.length≤2*Be then some (p18++x73)else none).bind fun x74=>some (x74,true)) some)
noncomputable def bI(a:BS [AD]):B6 tb Oy [AD] [Ax,T.b] a:=Ad<|Al (Bq (t:=AD) 1 rfl rfl (Ae rfl)) fun _=>Ai (A1 Ds)<|Ai (A1 Hw)<|Ah<|Ad<|An (A3 (t:=AD) (u:=AD) (Ae rfl) rfl rfl (Aw _) rfl rfl) fun x1=>Aa.op (A2 aU (.one (Ae rfl))) fun x2=>Ag (EQ (Ae rfl)) fun x3=>Ac<|Aa.cond (Ae rfl) (Ad<|Ai (A1 Ds)<|Ai (A1 Hw)<|Ac<|Aa.ret (.cons (AA rfl)<| .one (AA rfl))) (Aa.skip<|Ah<|Ai (AE (Ae rfl))<|An (A3 (t:=AD) (u:=(Ay 32 T.u8)) (Ae rfl) rfl rfl LO rfl rfl) fun x4=>Ag (Cy rfl rfl (.cons Az rfl AJ<| .cons Dr rfl (Ae rfl)<| .nil _)) fun x5=>Aa.op (A2 Eg (.one (Ae rfl))) fun x6=>Ai (AE (Ae rfl))<|An (A3 (t:=AD) (u:=(T.int .i64)) (Ae rfl) rfl rfl Iy rfl rfl) fun x7=>Ag (DL (I:=(IT.int .i64)) (J:=IT.u64) rfl (Ae rfl)) fun x8=>Ag (Cy rfl rfl (.cons Az rfl AJ<| .cons By rfl (Ae rfl)<| .nil _)) fun x9=>Aa.op (A2 Eg (.one (Ae rfl))) fun x10=>Aa.op (BR (Ae rfl) (Ae rfl)) fun x11=>Ai (AE (Ae rfl))<|An (A3 (t:=AD) (u:=T.u32) (Ae rfl) rfl rfl OY rfl rfl) fun x12=>Ag (DL (I:=IT.u32) (J:=IT.u64) rfl (Ae rfl)) fun x13=>Ag (Cy rfl rfl (.cons Az rfl AJ<| .cons By rfl (Ae rfl)<| .nil _)) fun x14=>Aa.op (A2 Eg (.one (Ae rfl))) fun x15=>Aa.op (BR (Ae rfl) (Ae rfl)) fun x16=>Ab rfl<|Ah<|Ad<|Ai (A1 AJ)<|Ac<|A6<|Aa.loop (id:=0) (σ:=(AM×Int)) (τ:=AM) (fun s17=>⟨[(1, .cp 1 0),(4, .val Ax s17.1),(5, .val (T.int .i64) s17.2)],[(1, .cells [(35, .val AD a)])]⟩) (fun p18=>⟨[(4, .val Ax p18)],[]⟩) (x16,0) sB (fun _=>rfl) (fun s17=>Ad<|Ad<|Ab rfl<|Ai (AE (Ae rfl))<|An (A3 (t:=AD) (u:=(T.sl A5)) (Ae rfl) rfl rfl BV rfl rfl) fun x19=>
 Ag (Ez (Ae rfl)) fun x20=>Ag (A4 rfl (Ae rfl) (Ae rfl)) fun x21=>Ac<|Aa.cond (Ae rfl) (Aa.skip<|Ah<|A6<|Ad<|Ai (AE (Ae rfl))<|An (A3 (t:=AD) (u:=(T.sl A5)) (Ae rfl) rfl rfl BV rfl rfl) fun x22=>Ab rfl<|Aa.op (FO rfl (Ae rfl) (Ae rfl)) fun x23=>An (Ja rfl rfl (Ae rfl)) fun x24=>Al (BZ (t:=A5) 6 rfl rfl) fun x25=>Al (CV (Ae rfl) (Ae rfl) rfl rfl (Aw _) rfl) fun x26=>Ah<|Ab rfl<|Ai (AE (Ae rfl))<|An (A3 (t:=A5) (u:=(Ay 32 T.u8)) (Ae rfl) rfl rfl EV rfl rfl) fun x27=>Ag (Cy rfl rfl (.cons Az rfl AJ<| .cons Dr rfl (Ae rfl)<| .nil _)) fun x28=>Aa.op (A2 Eg (.one (Ae rfl))) fun x29=>Aa.op (BR (Ae rfl) (Ae rfl)) fun x30=>Ai (AE (Ae rfl))<|An (A3 (t:=A5) (u:=(Ay 32 T.u8)) (Ae rfl) rfl rfl PO rfl rfl) fun x31=>Ag (Cy rfl rfl (.cons Az rfl AJ<| .cons Dr rfl (Ae rfl)<| .nil _)) fun x32=>Aa.op (A2 Eg (.one (Ae rfl))) fun x33=>Aa.op (BR (Ae rfl) (Ae rfl)) fun x34=>Ag (Cy rfl rfl (.cons Az rfl AJ<| .cons By rfl (Db 1 rfl)<| .nil _)) fun x35=>Aa.op (A2 Eg (.one (Ae rfl))) fun x36=>Aa.op (BR (Ae rfl) (Ae rfl)) fun x37=>Ab rfl<|Ah<|Ad<|Ai (AE (Ae rfl))<|An (A3 (t:=A5) (u:=Ao) (Ae rfl) rfl rfl Eo rfl rfl) fun x38=>Ag (Cy rfl rfl (.nil _)) fun x39=>Ag (QA Cu rfl rfl (Ae rfl) (Ae rfl)) fun x40=>Ac<|Fi (τ:=AM) (fun p41=>⟨[(1, .cp 1 0),(4, .val Ax p41),(5, .val (T.int .i64) s17.2),(6, .cp 6 0)],[(1, .cells [(35, .val AD a)]),(6, .cells [(86, .val A5 x26)])]⟩) (fun p41=>Ah<|Ab rfl<|Ai (AE (Ae rfl))<|An (A3 (t:=A5) (u:=T.u64) (Ae rfl) rfl rfl OX rfl rfl) fun x43=>Ag (Cy rfl rfl (.cons Az rfl AJ<| .cons By rfl (Ae rfl)<| .nil _)) fun x44=>
 Aa.op (A2 Eg (.one (Ae rfl))) fun x45=>Aa.op (BR (Ae rfl) (Ae rfl)) fun x46=>Ai (AE (Ae rfl))<|An (A3 (t:=A5) (u:=T.u64) (Ae rfl) rfl rfl PP rfl rfl) fun x47=>Ag (Cy rfl rfl (.cons Az rfl AJ<| .cons By rfl (Ae rfl)<| .nil _)) fun x48=>Aa.op (A2 Eg (.one (Ae rfl))) fun x49=>Aa.op (BR (Ae rfl) (Ae rfl)) fun x50=>Ai (AE (Ae rfl))<|An (A3 (t:=A5) (u:=(T.int .i64)) (Ae rfl) rfl rfl Ix rfl rfl) fun x51=>Ag (DL (I:=(IT.int .i64)) (J:=IT.u64) rfl (Ae rfl)) fun x52=>Ag (Cy rfl rfl (.cons Az rfl AJ<| .cons By rfl (Ae rfl)<| .nil _)) fun x53=>Aa.op (A2 Eg (.one (Ae rfl))) fun x54=>Aa.op (BR (Ae rfl) (Ae rfl)) fun x55=>Ab rfl<|Ah<|Ai (A1 AJ)<|Ac<|A6<|Aa.loop (id:=2) (σ:=(AM×Int)) (τ:=AM) (fun s56=>⟨[(1, .cp 1 0),(4, .val Ax s56.1),(5, .val (T.int .i64) s17.2),(6, .cp 6 0),(7, .val (T.int .i64) s56.2)],[(1, .cells [(35, .val AD a)]),(6, .cells [(86, .val A5 x26)])]⟩) (fun p57=>⟨[(1, .cp 1 0),(4, .val Ax p57),(5, .val (T.int .i64) s17.2)],[(1, .cells [(35, .val AD a)])]⟩) (x55,0) sB (fun _=>rfl) (fun s56=>Ad<|Ad<|Ab rfl<|Ai (AE (Ae rfl))<|An (A3 (t:=A5) (u:=(T.sl Aj)) (Ae rfl) rfl rfl Cr rfl rfl) fun x58=>Ag (Ez (Ae rfl)) fun x59=>Ag (A4 rfl (Ae rfl) (Ae rfl)) fun x60=>Ac<|Aa.cond (Ae rfl) (Aa.skip<|Ah<|A6<|Ab rfl<|Ai (AE (Ae rfl))<|An (A3 (t:=A5) (u:=(T.sl Aj)) (Ae rfl) rfl rfl Cr rfl rfl) fun x61=>Ab rfl<|Aa.op (FO rfl (Ae rfl) (Ae rfl)) fun x62=>An (Ja rfl rfl (Ae rfl)) fun x63=>Ag (Cy rfl rfl (.cons Az rfl AJ<| .cons GO rfl (Ae rfl)<| .nil _)) fun x64=>Aa.op (A2 Eg (.one (Ae rfl))) fun x65=>
 Aa.op (BR (Ae rfl) (Ae rfl)) fun x66=>Ab rfl<|AI<|Ac<|Ab rfl<|Ag (Bt (I:=(IT.int .i64)) (Ae rfl) AJ) fun x67=>Ab rfl<|Aa.next (x66,x67) sB) (AQ<|Bv s56.1 sB)) (fun p57=>AR<|AI<|Ac<|Ab rfl<|Ag (Bt (I:=(IT.int .i64)) (Ae rfl) AJ) fun x68=>Ab rfl<|Aa.next (p57,x68) sB))<|Aa.cond (Ae rfl) (Ab rfl<|Ai (AE (Ae rfl))<|An (A3 (t:=A5) (u:=Ao) (Ae rfl) rfl rfl Eo rfl rfl) fun x69=>Ag (Cy rfl rfl (.cons Az rfl AJ<| .cons Fj rfl (Ae rfl)<| .nil _)) fun x70=>Aa.op (A2 Eg (.one (Ae rfl))) fun x71=>Aa.op (BR (Ae rfl) (Ae rfl)) fun x72=>Ab rfl<|DW x72 sB) (Aa.skip<|DW x37 sB)) (AQ<|Bv s17.1 sB)) (fun p18=>AR<|Ah<|Ab rfl<|Aa.op (A2 Ws (.one AJ)) fun x73=>Aa.op (BR (Ae rfl) (Ae rfl)) fun x74=>Ab rfl<|Ai (A1 Hw)<|Ac<|Aa.ret (.cons (AA rfl)<| .one (AA rfl))))
theorem fD:Spec tb IK [AD] [Ax,T.b] (fun a=>Sl a):=
 Spec.of nJ rfl rfl rfl bI
noncomputable def KF(a0:B4):Option Bool:=(PZ a0).bind fun x2=>if x2=true then (Nm ()).bind fun x3=>some x3 else (He a0).bind fun x5=>(Sl a0).bind fun x9=>(Dx (decide (x5.1=x9.1)) (some (decide (decide (x5.2=0)=x9.2)))).bind fun x15=>(Dx x15 ((HZ x9.2 (some (decide (x5.2=1)))).bind fun x17=>some x17)).bind fun x18=>(Dx x18 ((Nm ()).bind fun x19=>some x19)).bind fun x20=>some x20
noncomputable def Q2(a:BS [AD]):B6 tb GU [AD] [T.b] a:=Ad<|Al (Bq (t:=AD) 1 rfl rfl (Ae rfl)) fun _=>Ai (A1 Hw)<|Ah<|Ad<|An (A3 (t:=AD) (u:=AD) (Ae rfl) rfl rfl (Aw _) rfl rfl) fun x1=>Aa.op (A2 aV (.one (Ae rfl))) fun x2=>Ac<|Aa.cond (Ae rfl) (Ad<|Aa.op (A2 RR (.nil)) fun x3=>Ab rfl<|Ac<|Aa.ret (.one (AA rfl))) (Aa.skip<|Ah<|An (A3 (t:=AD) (u:=AD) (Ae rfl) rfl rfl (Aw _) rfl rfl) fun x4=>Aa.op (Ik Pp (.one (Ae rfl))) fun x5=>Ab rfl<|An (Ci (Ae rfl) rfl) fun x6=>An (Ci (Ae rfl) rfl) fun x7=>Ab rfl<|Ab rfl<|Ah<|An (A3 (t:=AD) (u:=AD) (Ae rfl) rfl rfl (Aw _) rfl rfl) fun x8=>Aa.op (Ik fD (.one (Ae rfl))) fun x9=>Ab rfl<|An (Ci (Ae rfl) rfl) fun x10=>An (Ci (Ae rfl) rfl) fun x11=>Ab rfl<|Ab rfl<|Ah<|Ab rfl<|Ab rfl<|Ag (MG (Ae rfl) (Ae rfl)) fun x12=>Ab rfl<|Aa.and 4 rfl rfl rfl (AP (A1 (Ae rfl))<|Bf (A4 rfl (Ae rfl) AJ) fun x13=>AP (A1 (Ae rfl))<|Bf (h_eqb (neg:=false) (Ae rfl) (Ae rfl)) fun x14=>Bj.nil (Ae rfl)) fun x15=>Ab rfl<|Aa.and 5 rfl rfl rfl (AP (A1 (Ae rfl))<|AP (A1 (Ae rfl))<|Bj.or 2 rfl rfl rfl rfl rfl (AP (A1 (Ae rfl))<|Bf (A4 rfl (Ae rfl) AJ) fun x16=>Bj.nil (Ae rfl)) fun x17=>Bj.nil (Ae rfl)) fun x18=>Ab rfl<|Aa.and 1 rfl rfl rfl (Bj.op (A2 RR (.nil)) fun x19=>Bj.nil (Ae rfl)) fun x20=>Ab rfl<|Ac<|Aa.ret (.one (AA rfl)))
theorem Rj:Spec tb DS [AD] [T.b] (fun a=>KF a):=
 Spec.of SL rfl rfl rfl Q2
end Go.Proofs.YtobejhpigbllpaaGreatDoor.Am
end

namespace Go.Proofs.YtobejhpigbllpaaGreatDoor.Am
theorem QG{x:Int}(h0: -9223372036854775808≤x)(h1:x<9223372036854775808):IntKind.i64.wrap x=x:=Zj h0 h1
theorem SA{n k:Nat}(h:n<k):DQ k (n:Int)=some n:=Cl h
theorem oY{β ρ:Type}{k n:Nat}{F:Int→Option (Int⊕(Unit⊕β))}{K:Unit⊕β→Option ρ}(q:Nat→Option β)(hk:k≤n)(hn:n<4611686018427387904)(h1: ∀i:Nat,k≤i→i<n→F (i:Int)=some (match q i with|none=> .inl (IntKind.i64.wrap ((i:Int)+1))|some b=> .inr (.inr b)))
  (h2:F (n:Int)=some (.inr (.inl ()))):(iter F (k:Int)).bind K=(match(List.range' k (n-k)).findSome? q with|none=>K (.inl ())|some b=>K (.inr b)):=by
 refine Cd (fun s=>n-s.toNat) (fun s=> ∃i:Nat,s=i∧k≤i∧i≤n∧ ∀j,k≤j→j<i→q j=none)
  (fun r=>(r= .inl ()∧ ∀j,k≤j→j<n→q j=none)∨ ∃b,r= .inr b∧(List.range' k (n-k)).findSome? q=some b) ⟨k,rfl,Nat.le_refl _,hk,by omega⟩ ?_ ?_
 ·rintro s ⟨i,rfl,hki,hi,hq⟩
  rcases Nat.lt_or_ge i n with hlt|hge
  ·rw[h1 i hki hlt]
   cases e:q i with
   |none=>
    left
    refine⟨_,rfl,⟨i+1,?_,by omega,by omega,fun j hj1 hj=> ?_⟩,?_⟩
    ·rw[show(i:Int)+1=((i+1:Nat):Int) by omega,Bz (by omega)]
    ·rcases Nat.lt_or_ge j i with h|h
     ·exact hq j hj1 h
     ·obtain rfl:j=i:=by omega
      exact e
    ·rw[show(i:Int)+1=((i+1:Nat):Int) by omega,Bz (by omega)];omega
   |some b=>
    right
    refine⟨_,rfl, .inr ⟨b,rfl,?_⟩⟩
    have:List.range' k (n-k)=List.range' k (i-k)++i::List.range' (i+1) (n-(i+1)):=by
     rw[show n-k=(i-k)+(1+(n-(i+1))) by omega,←List.range'_append_1,←List.range'_append_1]
     simp only[List.range'_one,List.singleton_append,List.append_cancel_left_eq]
     rw[show k+(i-k)=i by omega]
    rw[this,List.findSome?_append,List.findSome?_eq_none_iff.2 (fun j hj=>by
     rw[List.mem_range'_1]at hj;exact hq j hj.1 (by omega))]
    simp[e]
  ·obtain rfl:i=n:=by omega
   right
   exact⟨_,h2, .inl ⟨rfl,hq⟩⟩
 ·rintro _ (⟨rfl,h⟩|⟨b,rfl,h⟩)
  ·rw[List.findSome?_eq_none_iff.2 (fun j hj=>by rw[List.mem_range'_1]at hj;exact h j hj.1 (by omega))]
  ·rw[h]
theorem cmpA(x y:AB):HH EW x y=decide (x=y):=
 if h:x=y then(K9 (t:=Ak) h).trans (decide_eq_true h).symm else(VZ (t:=Ak) h).trans (decide_eq_false h).symm
theorem cmpE(x y:AF):HH Cu x y=decide (x=y):=
 if h:x=y then(K9 (t:=Ao) h).trans (decide_eq_true h).symm else(VZ (t:=Ao) h).trans (decide_eq_false h).symm
theorem tT(x y:Aq):HH E9 x y=decide (x=y):=
 if h:x=y then(K9 (t:=Aj) h).trans (decide_eq_true h).symm else(VZ (t:=Aj) h).trans (decide_eq_false h).symm
def DO(a:AB):Bool:=decide (a.V=6∨(a.V=4∧a.B.l.drop 4=List.replicate 12 0))
theorem yW(b0 b1 b2 b3:UInt8)(h:[b0,b1,b2,b3].length=4):N3 ⟨[b0,b1,b2,b3],h⟩=some ⟨4,⟨[b0,b1,b2,b3,0,0,0,0,0,0,0,0,0,0,0,0],rfl⟩⟩:=by
 unfold N3
 rfl
theorem tF(b0 b1 b2 b3 b4 b5 b6 b7 b8 b9 b10 b11 b12 b13 b14 b15:UInt8)(h:(([b0,b1,b2,b3,b4,b5,b6,b7,b8,b9,b10,b11,b12,b13,b14,b15].drop 0).take 4).length=4):
  N3 ⟨([b0,b1,b2,b3,b4,b5,b6,b7,b8,b9,b10,b11,b12,b13,b14,b15].drop 0).take 4,h⟩=some ⟨4,⟨[b0,b1,b2,b3,0,0,0,0,0,0,0,0,0,0,0,0],rfl⟩⟩:=yW b0 b1 b2 b3 rfl
theorem bytes16{p:AB→Prop}(h: ∀(V:Int) (b0 b1 b2 b3 b4 b5 b6 b7 b8 b9 b10 b11 b12 b13 b14 b15:UInt8),p ⟨V,⟨[b0,b1,b2,b3,b4,b5,b6,b7,b8,b9,b10,b11,b12,b13,b14,b15],rfl⟩⟩): ∀a,p a:=by
 rintro⟨V,⟨l,hl⟩⟩
 match l,hl with
 |[b0,b1,b2,b3,b4,b5,b6,b7,b8,b9,b10,b11,b12,b13,b14,b15],_=>exact h V b0 b1 b2 b3 b4 b5 b6 b7 b8 b9 b10 b11 b12 b13 b14 b15
theorem LL(a:AB):Hp a=some (DO a):=by
 revert a
 refine bytes16 fun V b0 b1 b2 b3 b4 b5 b6 b7 b8 b9 b10 b11 b12 b13 b14 b15=> ?_
 unfold Hp
 by_cases h6:V=6
 ·simp[h6,HZ,DO]
 ·by_cases hv:V=4
  ·subst hv
   have e4:((4:Int)=6)=False:=by simp
   simp only[HZ,Dx,e4,decide_false,Bool.false_eq_true,if_false,decide_true,if_true,tF,Option.bind_some,cmpA,DO]
   congr 1
   simp[AB.mk.injEq,Ar.mk.injEq,List.replicate]
  ·simp[h6,hv,HZ,Dx,DO]
theorem ZI(B:Ar UInt8 16){i:Nat}(h:i<16): ∃b,B.l[i]? =some b:=⟨B.l[i]'(by rw[B.len];exact h),List.getElem?_eq_getElem _⟩
theorem Nd(a:AB):II a=some (DO a):=by
 unfold II
 by_cases h6:a.V=6
 ·simp[h6,DO]
 ·rw[if_neg (by simpa using h6)]
  rw[show(4:Int)=((4:Nat):Int)from rfl,oY (n:=16) (fun i=>if a.B.l[i]? =some 0 then none else some false) (by decide) (by decide)]
  ·cases e:(List.range' 4 (16-4)).findSome? (fun i=>if a.B.l[i]? =some 0 then none else some false)with
   |none=>
    simp only[Sum.elim_inl]
    have hz:a.B.l.drop 4=List.replicate 12 0:=by
     apply List.ext_getElem?
     intro i
     rw[List.getElem?_drop]
     rcases Nat.lt_or_ge i 12 with hi|hi
     ·have:=List.findSome?_eq_none_iff.1 e (4+i) (by rw[List.mem_range'_1];omega)
      rw[List.getElem?_replicate,if_pos hi]
      by_cases h:a.B.l[4+i]? =some 0
      ·exact h
      ·simp[h]at this
     ·rw[List.getElem?_eq_none (by rw[a.B.len];omega),List.getElem?_eq_none (by simp;omega)]
    simp[DO,h6,hz]
   |some b=>
    obtain⟨i,hi,h'⟩:=List.exists_of_findSome?_eq_some e
    rw[List.mem_range'_1]at hi
    have hb:b=false:=by split at h'<;>simp_all
    subst hb
    simp only[Sum.elim_inr]
    have: ¬a.B.l.drop 4=List.replicate 12 0:=fun hz=>by
     have h:=congrArg (fun l=>l[i-4]?) hz
     simp only[List.getElem?_drop,List.getElem?_replicate]at h
     rw[show 4+(i-4)=i by omega,if_pos (by omega)]at h
     rw[h]at h';simp at h'
    have hr:DO a=false:=decide_eq_false (by
     rintro(h|⟨_,h⟩)
     ·exact h6 h
     ·exact this h)
    rw[hr]
  ·intro i h4 hi
   obtain⟨b,hb⟩:=ZI a.B hi
   rw[if_pos (by simp;omega),SA hi,Option.bind_some,hb]
   simp only[Option.bind_some,Option.some.injEq]
   have e0:((b.toNat:Int)=((0:UInt8).toNat:Int))↔b=0:=by
    constructor
    ·intro h;exact UInt8.toNat_inj.1 (by exact_mod_cast h)
    ·rintro rfl;rfl
   by_cases h:b=0
   ·simp[h]
   ·simp only[e0,h,decide_false,Bool.not_false,if_true,if_false];rfl
  ·rw[if_neg (by decide)]
def Ef(a:AB):Nat:=if DO a=true then(if a.V=4 then 32 else 128)else 0
theorem XX(a:AB):LM a=some (Ef a:Int):=by
 unfold LM Ef
 rw[LL]
 cases DO a with
 |false=>simp
 |true=>by_cases h:a.V=4<;>simp[h]
theorem Zy(a:AB):Nf a=some (Ef a:Int):=by
 unfold Nf Ef
 rw[Nd]
 cases DO a with
 |false=>simp
 |true=>by_cases h:a.V=4<;>simp[h]
def P5(b:UInt8)(k:Nat):UInt8:=UInt8.ofNat (b.toNat/2^(8-k)*2^(8-k))
def OM(l:List UInt8)(n:Nat):List UInt8:=l.mapIdx fun i b=>P5 b (min (n-8*i) 8)
theorem Nj(l:List UInt8)(n:Nat):(OM l n).length=l.length:=by simp[OM]
theorem Nk(l:List UInt8)(n i:Nat):(OM l n)[i]? =l[i]?.map fun b=>P5 b (min (n-8*i) 8):=by simp[OM,List.getElem?_mapIdx]
def shlN(k:Nat):UInt8:=Q7 (((255:UInt8).toNat:Int)*2^(min k 8))
def andN(b k:Nat):UInt8:=Q7 (JA .and .u8 (b:Int) ((shlN k).toNat:Int))
theorem Aa1: ∀(b:Fin 256) (k:Fin 9),andN b.1 (8-k.1)=P5 (UInt8.ofNat b.1) k.1:=by decide+kernel
def addN(x:UInt8)(n:Nat):UInt8:=Q7 ((x.toNat:Int)+((Q7 (n:Int)).toNat:Int))
theorem sI: ∀(b:Fin 256) (r:Fin 8),P5 (UInt8.ofNat b.1) (r.1+1)=(if b.1/2^(7-r.1)%2=1 then addN (P5 (UInt8.ofNat b.1) r.1) (128/2^r.1)else P5 (UInt8.ofNat b.1) r.1):=by decide+kernel
theorem sJ(b:UInt8):P5 b 0=0:=by
 have:=b.toNat_lt
 unfold P5
 rw[show b.toNat/2^(8-0)=0 by rw[Nat.div_eq_of_lt];simpa using this];simp
theorem P3(b:UInt8):UInt8.ofNat b.toNat=b:=by simp
theorem u64N{m:Nat}(h:m<18446744073709551616):(BQ (m:Int)).toNat=m:=by
 unfold BQ
 rw[show((m:Int)%18446744073709551616).toNat=m by omega]
 simp[UInt64.toNat_ofNat,h]
theorem uC(a:AB)(n:Nat)(hn:n≤1000)(hr:DO a=true):Qw a (n:Int)=some ⟨a.V,⟨OM a.B.l n,by rw[Nj,a.B.len]⟩⟩:=by
 unfold Qw
 simp only[LL,hr,Option.bind_some,Bool.not_true,Bool.false_eq_true,if_false]
 refine Cd (fun s=>16-s.1.toNat) (fun s=> ∃i:Nat,s.1=i∧i≤16∧s.2.V=a.V∧ ∀j:Nat,s.2.B.l[j]? =if j<i then(OM a.B.l n)[j]? else a.B.l[j]?)
  (fun r=>r= .inl ⟨a.V,⟨OM a.B.l n,by rw[Nj,a.B.len]⟩⟩) ⟨0,rfl,by omega,rfl,fun j=>by simp⟩ ?_ ?_
 rotate_left
 ·rintro _ rfl;rfl
 ·rintro⟨s,⟨V,B⟩⟩ ⟨i,rfl,h1,h2,h3⟩
  dsimp only at h2 h3 ⊢
  subst h2
  by_cases hi:i<16
  ·left
   obtain⟨b,hb⟩:=ZI a.B hi
   have hBi:B.l[i]? =some b:=by rw[h3,if_neg (by omega)];exact hb
   rw[if_pos (by simp;omega)]
   have hw:IntKind.i64.wrap ((n:Int)-IntKind.i64.wrap (8*(i:Int)))=(n:Int)-8*(i:Int):=by rw[QG (x:=8*(i:Int)) (by omega) (by omega),QG (by omega) (by omega)]
   have hx:(if 8<(if(0:Int)>(n:Int)-8*(i:Int)then 0 else(n:Int)-8*(i:Int))then 8 else(if(0:Int)>(n:Int)-8*(i:Int)then 0 else(n:Int)-8*(i:Int)))=((min (n-8*i) 8:Nat):Int):=by
    split<;>split<;>omega
   have hk:min (n-8*i) 8<9:=by omega
   have h8:IntKind.i64.wrap (8-((min (n-8*i) 8:Nat):Int))=((8-min (n-8*i) 8:Nat):Int):=by rw[QG (by omega) (by omega)];omega
   have h9:(BQ (((8-min (n-8*i) 8:Nat):Int))).toNat=8-min (n-8*i) 8:=u64N (by omega)
   have hm:=Aa1 ⟨b.toNat,b.toNat_lt⟩ ⟨min (n-8*i) 8,hk⟩
   simp only[andN,shlN,P3]at hm
   simp only[hw,hx]
   rw[if_neg (show¬decide ((n:Int)<0)=true by simp)]
   simp only[Option.bind_some,Sum.elim_inl,SA hi,hBi,h8,h9]
   rw[if_neg (by omega)]
   simp only[Option.bind_some,Int.toNat_natCast,if_pos hi]
   refine⟨_,rfl,⟨i+1,by dsimp only;rw[QG (by omega) (by omega)];omega,by omega,rfl,fun j=> ?_⟩,by dsimp only;rw[QG (by omega) (by omega)];omega⟩
   dsimp only[Ar.set]
   rw[List.getElem?_set]
   by_cases hj:i=j
   ·subst hj
    rw[if_pos rfl,if_pos (by rw[B.len];exact hi),if_pos (by omega),Nk,hb,Option.map_some]
    exact congrArg some hm
   ·rw[if_neg hj,h3]
    by_cases hji:j<i
    ·rw[if_pos hji,if_pos (by omega)]
    ·rw[if_neg hji,if_neg (by omega)]
  ·obtain rfl:i=16:=by omega
   right
   rw[if_neg (by simp)]
   refine⟨_,rfl,?_⟩
   congr 2
   apply Ar.ext
   apply List.ext_getElem?
   intro j
   dsimp only
   rw[h3]
   by_cases hj:j<16
   ·rw[if_pos hj]
   ·rw[if_neg hj,List.getElem?_eq_none (by rw[a.B.len];omega),List.getElem?_eq_none (by rw[Nj,a.B.len];omega)]
theorem td8{i:Nat}(h:i<1000):(if(8:Nat)=0 then none else some (IntKind.i64.wrap (Int.tdiv (i:Int) 8)))=some ((i/8:Nat):Int):=by
 rw[if_neg (by decide),show(8:Int)=((8:Nat):Int)from rfl,←Int.ofNat_tdiv,Bz (by omega)]
theorem tm8{i:Nat}:(if(8:Nat)=0 then none else some (Int.tmod (i:Int) 8))=some ((i%8:Nat):Int):=by
 rw[if_neg (by decide),show(8:Int)=((8:Nat):Int)from rfl,←Int.ofNat_tmod]
theorem td2{i:Nat}(h:i<1000):(if(2:Nat)=0 then none else some (IntKind.i64.wrap (Int.tdiv (i:Int) 2)))=some ((i/2:Nat):Int):=by
 rw[if_neg (by decide),show(2:Int)=((2:Nat):Int)from rfl,←Int.ofNat_tdiv,Bz (by omega)]
theorem tm2{i:Nat}:(if(2:Nat)=0 then none else some (Int.tmod (i:Int) 2))=some ((i%2:Nat):Int):=by
 rw[if_neg (by decide),show(2:Int)=((2:Nat):Int)from rfl,←Int.ofNat_tmod]
theorem YD(a:AB)(i:Nat)(hi:i<128)(b:UInt8)(hb:a.B.l[i/8]? =some b):Qa a (i:Int)=some ((b.toNat/2^(7-i%8)%2:Nat):Int):=by
 have hbl:=b.toNat_lt
 unfold Qa
 rw[td8 (by omega)]
 simp only[Option.bind_some,SA (show i/8<16 by omega),hb]
 refine Cd (fun s=>s.2.toNat) (fun s=> ∃m:Nat,m≤7-i%8∧s.1=((b.toNat/2^m:Nat):Int)∧s.2=((7-m:Nat):Int)) (fun r=>r= .inl ((b.toNat/2^(7-i%8):Nat):Int)) ⟨0,by omega,by rw[Bz (by omega)];simp,rfl⟩ ?_ ?_
 ·rintro⟨s,k⟩ ⟨m,h1,h2,h3⟩
  dsimp only at h2 h3 ⊢
  subst h2 h3
  have hle:b.toNat/2^m≤b.toNat:=Nat.div_le_self _ _
  rw[tm8]
  simp only[Option.bind_some]
  by_cases hm:m<7-i%8
  ·left
   rw[if_pos (by rw[decide_eq_true_eq];omega),td2 (by omega)]
   simp only[Option.bind_some]
   refine⟨_,rfl,⟨m+1,by omega,?_,?_⟩,?_⟩
   ·dsimp only;rw[Nat.div_div_eq_div_mul,←Nat.pow_succ]
   ·dsimp only;rw[QG (by omega) (by omega)];omega
   ·dsimp only;rw[QG (by omega) (by omega)];omega
  ·right
   obtain rfl:m=7-i%8:=by omega
   rw[if_neg (by rw[decide_eq_true_eq];omega)]
   exact⟨_,rfl,rfl⟩
 ·rintro _ rfl
  simp only[Sum.elim_inl,tm2,Option.bind_some]
theorem pow_val{β γ:Type}{r:Nat}(hr:r<8){K:(Int⊕β)→Option γ}{F:Int×Int→Option ((Int×Int)⊕(Int⊕β))}(hF: ∀m k:Nat,m<1000→k≤8→F ((m:Int),(k:Int))=if k<r then some (.inl (((m/2:Nat):Int),((k+1:Nat):Int)))else some (.inr (.inl (m:Int)))):
  (iter F (128,0)).bind K=K (.inl ((128/2^r:Nat):Int)):=by
 refine Cd (fun s=>8-s.2.toNat) (fun s=> ∃k:Nat,k≤r∧s.1=((128/2^k:Nat):Int)∧s.2=(k:Int)) (fun q=>q= .inl ((128/2^r:Nat):Int)) ⟨0,by omega,rfl,rfl⟩ ?_ ?_
 ·rintro⟨s,k⟩ ⟨m,h1,h2,h3⟩
  dsimp only at h2 h3 ⊢
  subst h2 h3
  have hle:128/2^m≤128:=Nat.div_le_self _ _
  rw[hF _ _ (by omega) (by omega)]
  by_cases hm:m<r
  ·left
   rw[if_pos hm]
   refine⟨_,rfl,⟨m+1,by omega,?_,rfl⟩,by dsimp only;omega⟩
   dsimp only;rw[Nat.div_div_eq_div_mul,←Nat.pow_succ]
  ·right
   obtain rfl:m=r:=by omega
   rw[if_neg (by omega)]
   exact⟨_,rfl,rfl⟩
 ·rintro _ rfl;rfl
theorem vP(a:AB)(n:Nat)(hn:n≤Ef a)(hr:DO a=true):Sn a (n:Int)=some ⟨a.V,⟨OM a.B.l n,by rw[Nj,a.B.len]⟩⟩:=by
 have hw:Ef a≤128:=by unfold Ef;split<;>(try split)<;>omega
 unfold Sn
 simp only[Nd,Zy,hr,Option.bind_some,Bool.not_true,Bool.false_eq_true,if_false]
 refine Cd (fun s=>128-s.1.toNat) (fun s=> ∃i:Nat,s.1=i∧i≤n∧s.2.V=a.V∧s.2.B.l=OM a.B.l i)
  (fun r=>r= .inl ⟨a.V,⟨OM a.B.l n,by rw[Nj,a.B.len]⟩⟩) ⟨0,rfl,by omega,rfl,?_⟩ ?_ ?_
 ·apply List.ext_getElem?
  intro j
  rw[Nk]
  show(List.replicate 16 (0:UInt8))[j]? =_
  rw[List.getElem?_replicate]
  by_cases hj:j<16
  ·obtain⟨b,hb⟩:=ZI a.B hj
   rw[if_pos hj,hb,Option.map_some,show min (0-8*j) 8=0 by omega,sJ]
  ·rw[if_neg hj,List.getElem?_eq_none (by rw[a.B.len];omega)];rfl
 ·rintro⟨s,⟨V,B⟩⟩ ⟨i,rfl,h1,h2,h3⟩
  dsimp only at h2 h3 ⊢
  subst h2
  by_cases hi:i<n
  ·left
   obtain⟨b,hb⟩:=ZI a.B (show i/8<16 by omega)
   have ht:Dx (decide ((i:Int)<(Ef a:Int))) (some (decide ((i:Int)<(n:Int))))=some true:=by
    rw[decide_eq_true (by omega),decide_eq_true (by omega)];rfl
   have hBb:B.l[i/8]? =some (P5 b (i%8)):=by
    rw[h3,Nk,hb,Option.map_some,show min (i-8*(i/8)) 8=i%8 by omega]
   have hstep:=sI ⟨b.toNat,b.toNat_lt⟩ ⟨i%8,by omega⟩
   simp only[addN,P3]at hstep
   have hnext: ∀(c:UInt8),c=P5 b (i%8+1)→B.l.set (i/8) c=OM a.B.l (i+1):=by
    rintro c rfl
    apply List.ext_getElem?
    intro j
    rw[List.getElem?_set,Nk]
    by_cases hj:i/8=j
    ·subst hj
     rw[if_pos rfl,if_pos (by rw[B.len];omega),hb,Option.map_some,show min (i+1-8*(i/8)) 8=i%8+1 by omega]
    ·rw[if_neg hj,h3,Nk,show min (i+1-8*j) 8=min (i-8*j) 8 by omega]
   have hwi:IntKind.i64.wrap ((i:Int)+1)=((i+1:Nat):Int):=by rw[QG (by omega) (by omega)];omega
   simp only[ht,Option.bind_some,if_true,YD a i (by omega) b hb]
   by_cases hd:b.toNat/2^(7-i%8)%2=1
   ·rw[if_pos hd]at hstep
    rw[if_pos (by rw[decide_eq_true_eq];omega)]
    rw[pow_val (r:=i%8) (by omega) (fun m k hm hk=>by
     rw[tm8]
     simp only[Option.bind_some]
     by_cases hkr:k<i%8
     ·rw[if_pos (by rw[decide_eq_true_eq];omega),if_pos hkr,td2 (by omega)]
      simp only[Option.bind_some]
      rw[QG (by omega) (by omega)];rfl
     ·rw[if_neg (by rw[decide_eq_true_eq];omega),if_neg hkr])]
    simp only[Sum.elim_inl,td8 (show i<1000 by omega),Option.bind_some,SA (show i/8<16 by omega),hBb,if_pos (show i/8<16 by omega),hwi]
    refine⟨_,rfl,⟨i+1,rfl,by omega,rfl,?_⟩,by dsimp only;omega⟩
    exact hnext _ hstep.symm
   ·rw[if_neg hd]at hstep
    rw[if_neg (by rw[decide_eq_true_eq];omega),hwi]
    refine⟨_,rfl,⟨i+1,rfl,by omega,rfl,?_⟩,by dsimp only;omega⟩
    dsimp only
    rw[←hnext (P5 b (i%8)) hstep.symm]
    exact(List.ext_getElem? fun j=>by
     rw[List.getElem?_set]
     by_cases hj:i/8=j
     ·subst hj;rw[if_pos rfl,if_pos (by rw[B.len];omega),hBb]
     ·rw[if_neg hj])
  ·obtain rfl:i=n:=by omega
   right
   have ht:Dx (decide ((i:Int)<(Ef a:Int))) (some (decide ((i:Int)<(i:Int))))=some false:=by
    rw[decide_eq_false (show¬(i:Int)<(i:Int) by omega)]
    cases decide ((i:Int)<(Ef a:Int))<;>rfl
   simp only[ht,Option.bind_some,Bool.false_eq_true,if_false]
   refine⟨_,rfl,?_⟩
   congr 2
   exact Ar.ext h3
 ·rintro _ rfl;rfl
def Hb(p:Aq):Bool:=DO p.A&&(decide (0≤p.Bits∧p.Bits≤(Ef p.A:Int))&&decide (OM p.A.B.l p.Bits.toNat=p.A.B.l))
theorem Wh(a:AB):Ef a≤128:=by unfold Ef;split<;>(try split)<;>omega
theorem Ok(p:Aq):I9 p=some (Hb p):=by
 obtain⟨a,n⟩:=p
 have hw:=Wh a
 unfold I9 eE
 simp only[LL,XX,Option.bind_some,Hb]
 cases hr:DO a with
 |false=>simp[Dx]
 |true=>
  simp only[Bool.not_true,Bool.false_eq_true,if_false,Bool.true_and]
  by_cases h0:n<0
  ·have:HZ (decide (n<0)) (some (decide ((Ef a:Int)<n)))=some true:=by rw[decide_eq_true h0];rfl
   have hf:decide (0≤n∧n≤(Ef a:Int))=false:=decide_eq_false (by omega)
   simp[this,hf,Dx]
  ·by_cases h1:(Ef a:Int)<n
   ·have:HZ (decide (n<0)) (some (decide ((Ef a:Int)<n)))=some true:=by rw[decide_eq_false h0,decide_eq_true h1];rfl
    have hf:decide (0≤n∧n≤(Ef a:Int))=false:=decide_eq_false (by omega)
    simp[this,hf,Dx]
   ·have:HZ (decide (n<0)) (some (decide ((Ef a:Int)<n)))=some false:=by rw[decide_eq_false h0,decide_eq_false h1];rfl
    have hf:decide (0≤n∧n≤(Ef a:Int))=true:=decide_eq_true (by omega)
    obtain⟨m,rfl⟩: ∃m:Nat,n=m:=⟨n.toNat,by omega⟩
    simp only[this,hf,Option.bind_some,Bool.false_eq_true,if_false,uC a m (by omega) hr,decide_true,Dx,if_true,tT,Bool.true_and,Int.toNat_natCast]
    congr 1
    rw[decide_eq_decide]
    constructor
    ·intro e
     have:=congrArg (fun x:Aq=>x.A.B.l) e
     exact this
    ·intro e
     obtain⟨V,B⟩:=a
     congr 2
     exact Ar.ext e
theorem Nb(p:Aq):JJ p=some (Hb p):=by
 obtain⟨a,n⟩:=p
 have hw:=Wh a
 unfold JJ
 simp only[Nd,Zy,Option.bind_some,Hb]
 cases hr:DO a with
 |false=>simp[HZ]
 |true=>
  simp only[Bool.not_true,Bool.true_and]
  by_cases h0:n<0
  ·have hf:decide (0≤n∧n≤(Ef a:Int))=false:=decide_eq_false (by omega)
   simp[HZ,hf,h0]
  ·by_cases h1:(Ef a:Int)<n
   ·have hf:decide (0≤n∧n≤(Ef a:Int))=false:=decide_eq_false (by omega)
    simp[HZ,hf,h0,h1]
   ·have hf:decide (0≤n∧n≤(Ef a:Int))=true:=decide_eq_true (by omega)
    obtain⟨m,rfl⟩: ∃m:Nat,n=m:=⟨n.toNat,by omega⟩
    simp only[HZ,Bool.false_eq_true,if_false,Option.bind_some,decide_eq_false h0,decide_eq_false h1,hf,vP a m (by omega) hr,cmpA,Bool.true_and,Int.toNat_natCast]
    congr 1
    rw[decide_eq_decide]
    constructor
    ·intro e
     exact(congrArg (fun x:AB=>x.B.l) e).symm
    ·intro e
     obtain⟨V,B⟩:=a
     congr 1
     exact(Ar.ext e).symm
def QU(a b:List UInt8)(i:Nat):Option Bool:=if a[i]? =b[i]? then none else some (decide (((a[i]?).getD 0).toNat<((b[i]?).getD 0).toNat))
def pN(a b:List UInt8):Bool:=((List.range' 0 16).findSome? (QU a b)).getD false
def hJ(a b:AB):Bool:=if a.V=b.V then pN a.B.l b.B.l else decide (a.V<b.V)
theorem ZN{p:Nat→Bool}{q:Nat→Option Bool}: ∀{l:List Nat},(∀i∈l,(q i).isSome=p i)→l.findSome? q=(l.find? p).bind q
 |[],_=>rfl
 |x::l,h=>by
  have hx:=h x (by simp)
  rw[List.findSome?_cons,List.find?_cons]
  cases hq:q x with
  |none=>rw[hq]at hx;simp only[Option.isSome_none]at hx;rw[←hx];exact ZN fun i hi=>h i (by simp[hi])
  |some b=>rw[hq]at hx;simp only[Option.isSome_some]at hx;rw[←hx];simp[hq]
theorem zM(a b:List UInt8)(ha:a.length=16)(hb:b.length=16):decide (XF a b<0)=pN a b:=by
 unfold XF Extern.BytealgCompare.cmp pN
 have hga: ∀i,i<16→(⟨a.toArray⟩:ByteArray)[i]! =(a[i]?).getD 0:=fun i hi=>by
  rw[getElem!_pos (⟨a.toArray⟩:ByteArray) i (by show i<a.toArray.size;simp[ha,hi]),List.getElem?_eq_getElem (show i<a.length by omega)]
  rfl
 have hgb: ∀i,i<16→(⟨b.toArray⟩:ByteArray)[i]! =(b[i]?).getD 0:=fun i hi=>by
  rw[getElem!_pos (⟨b.toArray⟩:ByteArray) i (by show i<b.toArray.size;simp[hb,hi]),List.getElem?_eq_getElem (show i<b.length by omega)]
  rfl
 have hsa:(⟨a.toArray⟩:ByteArray).size=16:=by simp[ByteArray.size,ha]
 have hsb:(⟨b.toArray⟩:ByteArray).size=16:=by simp[ByteArray.size,hb]
 rw[hsa,hsb,List.range_eq_range']
 have hfs:(List.range' 0 16).findSome? (QU a b)=((List.range' 0 16).find? fun i=>(⟨a.toArray⟩:ByteArray)[i]! != (⟨b.toArray⟩:ByteArray)[i]!).bind (QU a b):=by
  refine ZN fun i hi=> ?_
  rw[List.mem_range'_1]at hi
  rw[hga i (by omega),hgb i (by omega)]
  rw[List.getElem?_eq_getElem (show i<a.length by omega),List.getElem?_eq_getElem (show i<b.length by omega)]
  unfold QU
  rw[List.getElem?_eq_getElem (show i<a.length by omega),List.getElem?_eq_getElem (show i<b.length by omega)]
  by_cases e:a[i]=b[i]<;>simp[e]
 rw[hfs]
 simp only[Nat.min_self]
 cases e:(List.range' 0 16).find? fun i=>(⟨a.toArray⟩:ByteArray)[i]! != (⟨b.toArray⟩:ByteArray)[i]! with
 |none=>simp
 |some i=>
  have hi:=List.mem_of_find?_eq_some e
  rw[List.mem_range'_1]at hi
  have hne:=List.find?_some e
  rw[hga i (by omega),hgb i (by omega)]at hne
  have hq:QU a b i=some (decide (((a[i]?).getD 0).toNat<((b[i]?).getD 0).toNat)):=by
   unfold QU
   rw[if_neg]
   intro h
   rw[h]at hne
   simp at hne
  simp only[Option.bind_some,hq,Option.getD_some,hga i (by omega),hgb i (by omega)]
  by_cases h:(a[i]?).getD 0<(b[i]?).getD 0
  ·rw[if_pos h];simp[UInt8.lt_iff_toNat_lt.1 h]
  ·rw[if_neg h]
   have: ¬((a[i]?).getD 0).toNat<((b[i]?).getD 0).toNat:=fun g=>h (UInt8.lt_iff_toNat_lt.2 g)
   simp[this]
theorem uD(a b:AB):Qx a b=some (hJ a b):=by
 unfold Qx hJ
 by_cases h:a.V=b.V
 ·have h1:(a.B.l.drop 0).take 16=a.B.l:=List.take_of_length_le (by rw[List.drop_zero,a.B.len];exact Nat.le_refl _)
  have h2:(b.B.l.drop 0).take 16=b.B.l:=List.take_of_length_le (by rw[List.drop_zero,b.B.len];exact Nat.le_refl _)
  have hb:Km (.mk a.B.l) (.mk b.B.l)=some (XF a.B.l b.B.l):=by simp only[Km,F0,Option.bind_some,EY]
  rw[h1,h2,hb]
  simp only[h,decide_true,Bool.not_true,Bool.false_eq_true,if_false,if_true,Nat.zero_add,Nat.le_refl,and_self,Option.bind_some]
  exact congrArg some (zM _ _ a.B.len b.B.len)
 ·simp[h]
theorem vQ(a b:AB):So a b=some (hJ a b):=by
 unfold So hJ
 by_cases h:a.V=b.V
 ·simp only[h,decide_true,Bool.not_true,Bool.false_eq_true,if_false,if_true]
  rw[show(0:Int)=((0:Nat):Int)from rfl,oY (n:=16) (QU a.B.l b.B.l) (by decide) (by decide)]
  ·unfold pN
   cases (List.range' 0 (16-0)).findSome? (QU a.B.l b.B.l)<;>rfl
  ·intro i _ hi
   obtain⟨x,hx⟩:=ZI a.B hi
   obtain⟨y,hy⟩:=ZI b.B hi
   rw[if_pos (by simp;omega)]
   have hq:QU a.B.l b.B.l i=if x=y then none else some (decide (x.toNat<y.toNat)):=by
    unfold QU;rw[hx,hy];simp
   simp only[SA hi,Option.bind_some,hx,hy,hq]
   have e0:((x.toNat:Int)=(y.toNat:Int))↔x=y:=⟨fun h=>UInt8.toNat_inj.1 (by exact_mod_cast h),fun h=>by rw[h]⟩
   by_cases e:x=y
   ·simp[e]
   ·have e1:decide ((x.toNat:Int)<(y.toNat:Int))=decide (x.toNat<y.toNat):=by rw[decide_eq_decide];omega
    simp only[e0,e,decide_false,Bool.not_false,if_true,if_false,e1];rfl
  ·rw[if_neg (by simp)]
 ·simp[h]
def UA(p q:Aq):Bool:=if p.A=q.A then decide (p.Bits<q.Bits)else hJ p.A q.A
theorem tV(p q:Aq):Ny p q=some (UA p q):=by
 unfold Ny UA
 by_cases h:p.A=q.A<;>simp[cmpA,h,uD]
theorem gG(p q:Aq):Nc p q=some (UA p q):=by
 unfold Nc UA
 by_cases h:p.A=q.A<;>simp[cmpA,h,vQ]
def Gn(e:AF):Bool:=DO e.A&&(decide (1≤e.Port)&&decide (e.Port≤65535))
theorem R5(e:AF):El e=some (Gn e):=by
 unfold El Gn
 rw[LL]
 cases DO e.A<;>by_cases h1:1≤e.Port<;>simp[Dx,h1]
theorem Zx(e:AF):Lv e=some (Gn e):=by
 unfold Lv Gn
 rw[Nd]
 cases DO e.A<;>by_cases h1:1≤e.Port<;>simp[Dx,h1]
theorem ZF(e:AF):F1 e=some (decide (e=⟨Ak.z,0⟩)):=by
 unfold F1;rw[cmpE]
end Go.Proofs.YtobejhpigbllpaaGreatDoor.Am
namespace Go.Proofs.YtobejhpigbllpaaGreatDoor.Am
theorem YP(l:AM)(c:UInt8):Fl l c=some (Nw l c):=rfl
theorem QP(l:AM)(c:UInt8)(hl:l.length<1073741824):Ni l c=some (.mk (Fx c l)):=by
 unfold Ni
 refine Cd (fun s=>l.length-s.2.1.toNat)
  (fun s=> ∃b j:Nat,s.1=b∧s.2.1=j∧b≤j∧j≤l.length∧(∀x∈(l.take j).drop b,x≠c)∧s.2.2.l.length≤b∧s.2.2.l++Fx c (l.drop b)=Fx c l)
  (fun r=> ∃b:Nat,∃g,r= .inl ((b:Int),g)∧b≤l.length∧g.l.length≤b∧g.l++[l.drop b]=Fx c l) ⟨0,0,rfl,rfl,by omega,by omega,by simp,by simp,by simp⟩ ?_ ?_
 rotate_left
 ·rintro _ ⟨b,g,rfl,h1,h2,h3⟩
  simp only[Option.bind_some,Sum.elim_inl,Zr h1]
  rw[Kn (by unfold Be;omega),h3,Option.bind_some]
 ·rintro⟨b',j',g⟩ ⟨b,j,rfl,rfl,h1,h2,h3,h4,h5⟩
  dsimp only at h4 h5 ⊢
  have hsplit:l.drop b=(l.take j).drop b++l.drop j:=by
   rw[←List.drop_append_of_le_length (by simp;omega),List.take_append_drop]
  by_cases hj:j<l.length
  ·rw[if_pos (by simpa using hj),BD,List.getElem?_eq_getElem hj]
   simp only[Option.bind_some]
   have hdj:l.drop j=l[j]::l.drop (j+1):=List.drop_eq_getElem_cons hj
   rw[show(j:Int)+1=((j+1:Nat):Int) by omega,Bz (by omega)]
   left
   by_cases hx:l[j]=c
   ·rw[if_pos (by simp[hx]),uQ h1 (by omega)]
    simp only[Option.bind_some]
    rw[Kn (by unfold Be;omega)]
    refine⟨_,rfl,⟨j+1,j+1,rfl,rfl,by omega,by omega,by simp,?_,?_⟩,by dsimp only;omega⟩
    ·simp only[EY,List.length_append,List.length_cons,List.length_nil];omega
    ·rw[hsplit,hdj,hx,Wp h3]at h5
     simpa using h5
   ·rw[if_neg (by simp only[decide_eq_true_eq];exact fun e=>hx (UInt8.toNat_inj.1 (by omega)))]
    refine⟨_,rfl,⟨b,j+1,rfl,rfl,by omega,by omega,?_,h4,h5⟩,by dsimp only;omega⟩
    intro x hxm
    rw[List.take_succ_eq_append_getElem hj,List.drop_append_of_le_length (by simp;omega)]at hxm
    rcases List.mem_append.1 hxm with h|h
    ·exact h3 x h
    ·rw[List.mem_singleton.1 h];exact hx
  ·rw[if_neg (by simpa using hj)]
   right
   refine⟨_,rfl,b,g,rfl,by omega,h4,?_⟩
   have:l.drop j=[]:=List.drop_eq_nil_of_le (by omega)
   rw[this,List.append_nil]at hsplit
   rw[hsplit,Uy h3]at h5
   rw[hsplit];exact h5
theorem sX(l:AM)(c:UInt8):JZ l [c]=some (Nw l c):=by
 simp[JZ,EO,HZ,Fo,CL,D9]
 rintro rfl
 simp[Nw,List.findIdx?_cons]
end Go.Proofs.YtobejhpigbllpaaGreatDoor.Am
namespace Go.Proofs.YtobejhpigbllpaaGreatDoor.Am
def blk(c:UInt8):Bool:=c==32||c==9||c==13
end Go.Proofs.YtobejhpigbllpaaGreatDoor.Am
namespace Go.Proofs.YtobejhpigbllpaaGreatDoor.Am
end Go.Proofs.YtobejhpigbllpaaGreatDoor.Am
namespace Go.Proofs.YtobejhpigbllpaaGreatDoor.Am
theorem jB(l:AM)(k:Nat)(h:k<l.length):(⟨l.toArray⟩:ByteArray).get! k=l[k]:=by
 show l.toArray[k]! =l[k]
 rw[getElem!_pos _ _ (by simpa using h)];simp
theorem Rq(l:AM)(pos:Nat)(h:pos<l.length):(l[pos].toNat<128∧EL l pos=((l[pos].toNat:Int),1))∨
  (128≤l[pos].toNat∧128≤(EL l pos).1∧1≤(EL l pos).2∧ ∀j,j<(EL l pos).2→ ∃hj:pos+j<l.length,128≤(l[pos+j]).toNat):=by
 have hsz:(⟨l.toArray⟩:ByteArray).size=l.length:=by simp[ByteArray.size]
 have h0:=jB l pos h
 by_cases hb:l[pos].toNat<128
 ·left
  refine⟨hb,?_⟩
  simp only[EL,Utf8.decode,Nat.add_zero,h0,hb,if_true]
 ·right
  have hb':128≤l[pos].toNat:=by omega
  refine⟨hb',?_⟩
  have hd0: ∀j,j<1→ ∃hj:pos+j<l.length,128≤(l[pos+j]).toNat:=fun j hj=>by
   obtain rfl:j=0:=by omega
   exact⟨h,hb'⟩
  have hc: ∀k,(decide (pos+k<(⟨l.toArray⟩:ByteArray).size)&&((⟨l.toArray⟩:ByteArray).get! (pos+k)).toNat/64==2)=true→ ∃hj:pos+k<l.length,128≤(l[pos+k]).toNat:=fun k hk=>by
   simp only[Bool.and_eq_true,decide_eq_true_eq,beq_iff_eq,hsz]at hk
   refine⟨hk.1,?_⟩
   have:=hk.2
   rw[jB l _ hk.1]at this
   omega
  simp only[EL,Utf8.decode,Nat.add_zero,h0]
  rw[if_neg hb]
  have err:(128:Int)≤((Utf8.runeError:Nat):Int):=by simp[Utf8.runeError]
  split
  ·rename_i hx
   simp only[Bool.and_eq_true]at hx
   have h1:=hc 1 (by simpa using hx.2)
   split
   ·rename_i hy
    refine⟨by simp only;omega,by simp,fun j hj=> ?_⟩
    simp only at hj
    rcases(show j=0∨j=1 by omega)with rfl|rfl
    ·exact hd0 0 (by omega)
    ·exact h1
   ·exact⟨err,by simp,hd0⟩
  ·split
   ·rename_i hx
    simp only[Bool.and_eq_true]at hx
    have h1:=hc 1 (by simpa using hx.1.2)
    have h2:=hc 2 (by simpa using hx.2)
    split
    ·rename_i hy
     simp only[Bool.and_eq_true,decide_eq_true_eq]at hy
     refine⟨by simp only;omega,by simp,fun j hj=> ?_⟩
     simp only at hj
     rcases(show j=0∨j=1∨j=2 by omega)with rfl|rfl|rfl
     ·exact hd0 0 (by omega)
     ·exact h1
     ·exact h2
    ·exact⟨err,by simp,hd0⟩
   ·split
    ·rename_i hx
     simp only[Bool.and_eq_true]at hx
     have h1:=hc 1 (by simpa using hx.1.1.2)
     have h2:=hc 2 (by simpa using hx.1.2)
     have h3:=hc 3 (by simpa using hx.2)
     split
     ·rename_i hy
      simp only[Bool.and_eq_true,decide_eq_true_eq]at hy
      refine⟨by simp only;omega,by simp,fun j hj=> ?_⟩
      simp only at hj
      rcases(show j=0∨j=1∨j=2∨j=3 by omega)with rfl|rfl|rfl|rfl
      ·exact hd0 0 (by omega)
      ·exact h1
      ·exact h2
      ·exact h3
     ·exact⟨err,by simp,hd0⟩
    ·exact⟨err,by simp,hd0⟩
theorem enc_len(r:Int)(h:128≤r): ∃b c,(Utf8.encode r).data.toList=b++[c]∧1≤b.length∧b.length≤3∧128≤c.toNat:=by
 have hc:128≤(if Utf8.valid r then r.toNat else Utf8.runeError):=by
  split
  ·omega
  ·simp[Utf8.runeError]
 have hb: ∀n:Nat,128≤n→n<256→128≤(UInt8.ofNat n).toNat:=fun n h1 h2=>by rw[UInt8.toNat_ofNat'];omega
 unfold Utf8.encode
 dsimp only
 generalize (if Utf8.valid r then r.toNat else Utf8.runeError)=k at hc
 rw[if_neg (by omega)]
 split
 ·exact⟨[_],_,rfl,by simp,by simp,hb _ (by omega) (by omega)⟩
 ·split
  ·exact⟨[_,_],_,rfl,by simp,by simp,hb _ (by omega) (by omega)⟩
  ·exact⟨[_,_,_],_,rfl,by simp,by simp,hb _ (by omega) (by omega)⟩
theorem Yk(r:Int): ∃b,E1 r=some b:=by
 unfold E1 Dx
 by_cases h1:(0:Int)≤r<;>by_cases h2:r<55296<;>by_cases h3:(57343:Int)<r<;>by_cases h4:r≤1114111<;>simp[h1,h2,h3,h4]
theorem dC(a b:UInt8)(ha:a.toNat<128)(hb:b.toNat<128)(r:Int)(h:128≤r):CZ [a,b] r=some (-1):=by
 unfold CZ
 have n1: ¬r<128:=by omega
 have n0:(0:Int)≤r:=by omega
 simp only[Dx,n0,n1,decide_true,decide_false,if_true,Option.bind_some]
 rw[if_neg (by simp)]
 by_cases he:r=65533
 ·rw[if_pos (by simpa using he)]
  have r0:EL [a,b] 0=((a.toNat:Int),1):=by
   rcases Rq [a,b] 0 (by simp)with ⟨_,e⟩|⟨e,_⟩
   ·exact e
   ·simp at e;omega
  have r1:EL [a,b] 1=((b.toNat:Int),1):=by
   rcases Rq [a,b] 1 (by simp)with ⟨_,e⟩|⟨e,_⟩
   ·exact e
   ·simp at e;omega
  have x0: ¬(a.toNat:Int)=65533:=by omega
  have x1: ¬(b.toNat:Int)=65533:=by omega
  rw[Md (n:=3) (b:= .inl ())]
  ·rfl
  ·simp[HO,r0,r1,x0,x1]
 ·rw[if_neg (by simpa using he)]
  obtain⟨v,hv⟩:=Yk r
  simp only[hv,Option.bind_some]
  cases v with
  |false=>simp
  |true=>
   obtain⟨p,c,e,h1,h2,h3⟩:=enc_len r h
   simp only[Bool.not_true,Bool.false_eq_true,if_false,e]
   have hl:((p++[c]).length:Int)-1=(p.length:Nat):=by simp
   rw[hl,Bz (by omega)]
   by_cases hp:p.length=1
   ·rw[Md (n:=1) (b:= .inr (-1))]
    ·rfl
    ·have i1:Fo [a,b] ((p.length:Nat):Int)=some b:=by rw[BD,hp];rfl
     have i2:Fo (p++[c]) ((p.length:Nat):Int)=some c:=by rw[BD,List.getElem?_append_right (Nat.le_refl _),Nat.sub_self];rfl
     have hbc: ¬(b.toNat:Int)=(c.toNat:Int):=by omega
     have hs:UZ [a,b] (some (IntKind.i64.wrap ((p.length:Int)+1))) none=some []:=by
      rw[hp,show((1:Nat):Int)+1=((2:Nat):Int)from rfl,Bz (by omega),Zr (by simp)];rfl
     have hf:Fl [] c=some (-1):=rfl
     have hlt:((p.length:Nat):Int)<(([a,b]:AM).length:Int):=by rw[hp];simp
     simp only[HO,hlt,decide_true,if_true,i1,i2,hs,hf,Option.bind_some,hbc,decide_false,Bool.not_false]
     simp
   ·rw[Md (n:=1) (b:= .inl ())]
    ·rfl
    ·have hlt: ¬((p.length:Nat):Int)<(([a,b]:AM).length:Int):=by simp;omega
     simp only[HO,hlt,decide_false,Bool.false_eq_true,if_false]
     rfl
theorem dB(a b:UInt8)(c:UInt8)(h:c.toNat<128):CZ [a,b] (c.toNat:Int)=some (Nw [a,b] c):=by
 unfold CZ
 have n1:(c.toNat:Int)<128:=by omega
 have n0:(0:Int)≤(c.toNat:Int):=by omega
 have hc:IT.u8.ofI (c.toNat:Int)=c:=by
  show UInt8.ofNat (IntKind.u8.wrap (c.toNat:Int)).toNat=c
  have:IntKind.u8.wrap (c.toNat:Int)=c.toNat:=by simp only[IntKind.wrap,IntKind.bits,IntKind.signed];simp;omega
  rw[this];simp
 simp only[Dx,n0,n1,decide_true,if_true,Option.bind_some,hc,YP]
def two(a b c:UInt8):Bool:=c==a||c==b
theorem find2(a b c:UInt8):0≤Nw [a,b] c↔two a b c=true:=by
 unfold Nw two
 by_cases h1:a=c
 ·subst h1;simp[List.findIdx?_cons]
 ·by_cases h2:b=c
  ·subst h2
   have:(a==b)=false:=by simpa using h1
   simp[List.findIdx?_cons,this]
  ·have e1:(a==c)=false:=by simpa using h1
   have e2:(b==c)=false:=by simpa using h2
   have e3:(c==a)=false:=by simpa using Ne.symm h1
   have e4:(c==b)=false:=by simpa using Ne.symm h2
   simp[List.findIdx?_cons,e1,e2,e3,e4]
def rI(a b:UInt8):Ar Bool 256:=((Ay 256 T.b).z.set a.toNat true).set b.toNat true
theorem xR(a b:UInt8)(ha:a.toNat<128)(hb:b.toNat<128):Fk [a,b]=some (rI a b,true):=by
 unfold Fk
 have na: ¬((128:UInt8).toNat:Int)≤(a.toNat:Int):=by show¬(128:Int)≤_;omega
 have nb: ¬((128:UInt8).toNat:Int)≤(b.toNat:Int):=by show¬(128:Int)≤_;omega
 have w1:IntKind.i64.wrap ((0:Int)+1)=1:=rfl
 have w2:IntKind.i64.wrap ((1:Int)+1)=2:=rfl
 have g0:Fo [a,b] 0=some a:=rfl
 have g1:Fo [a,b] 1=some b:=rfl
 have l0:(0:Int)<(([a,b]:AM).length:Int):=by simp
 have l1:(1:Int)<(([a,b]:AM).length:Int):=by simp
 have l2: ¬(2:Int)<(([a,b]:AM).length:Int):=by simp
 rw[Md (n:=3) (b:= .inl (rI a b))]
 ·rfl
 ·simp only[HO,l0,l1,l2,g0,g1,na,nb,w1,w2,decide_true,decide_false,if_true,Bool.false_eq_true,if_false,Option.bind_some,Cl (show a.toNat<256 by omega),Cl (show b.toNat<256 by omega),if_pos (show a.toNat<256 by omega),if_pos (show b.toNat<256 by omega)]
  rfl
theorem tR(a b c:UInt8):C4 (some (rI a b)) c=some (two a b c):=by
 have hl:(rI a b).l=((List.replicate 256 false).set a.toNat true).set b.toNat true:=rfl
 have h:(rI a b).l[c.toNat]? =some (two a b c):=by
  have hc:=c.toNat_lt
  rw[hl]
  simp only[List.getElem?_set,List.length_set,List.length_replicate,List.getElem?_replicate,two]
  by_cases h1:b.toNat=c.toNat
  ·have:=UInt8.toNat_inj.1 h1
   subst this
   have:=b.toNat_lt
   simp;omega
  ·have e1:(c==b)=false:=by rw[beq_eq_false_iff_ne];exact fun e=>h1 (by rw[e])
   rw[if_neg h1]
   by_cases h2:a.toNat=c.toNat
   ·have:=UInt8.toNat_inj.1 h2
    subst this
    have:=a.toNat_lt
    simp;omega
   ·have e2:(c==a)=false:=by rw[beq_eq_false_iff_ne];exact fun e=>h2 (by rw[e])
    rw[if_neg h2,if_pos (by simpa using hc)]
    simp[e1,e2]
 simp[C4,Fo,h]
theorem VE(l:AM)(a b:UInt8)(ha:a.toNat<128)(hb:b.toNat<128)(hl:l.length<1073741824):FK l [a,b]=some (l.any (two a b)):=by
 have key: ∃r:Int,Ht l [a,b]=some r∧(0≤r↔l.any (two a b)=true):=by
  unfold Ht
  rw[if_neg (by simp),if_neg (by simp)]
  simp only[Fb,Option.bind_some]
  by_cases h8:(8:Int)<(l.length:Int)
  ·rw[if_pos (by simpa using h8)]
   simp only[xR a b ha hb,Option.bind_some,if_true]
   obtain⟨r,e,hr⟩:=Nr (F:=fun(s26:Int)=>
    if(decide (s26<(l.length:Int)))=true then
    (Fo l s26).bind fun x30=>
    (C4 (some (rI a b)) x30).bind fun x31=>
    if x31=true then
    (some s26).map fun r=> .inr (.inr r)
    else
    some (.inl (IntKind.i64.wrap (s26+1)))
    else
    some (.inr (.inl ()):_⊕Unit⊕Int)) (fun s=>l.length-s.toNat) (fun s=> ∃n:Nat,s=(n:Int)∧n≤l.length∧(l.take n).any (two a b)=false)
    (fun r=>(r= .inl ()∧l.any (two a b)=false)∨ ∃n:Nat,r= .inr (n:Int)∧l.any (two a b)=true) (by
     rintro s ⟨n,rfl,h1,h2⟩
     by_cases hn:n<l.length
     ·rw[if_pos (by simpa using hn),BD,List.getElem?_eq_getElem hn]
      simp only[Option.bind_some,tR]
      by_cases hx:two a b l[n]=true
      ·right
       refine⟨_,by rw[if_pos hx];rfl, .inr ⟨n,rfl,?_⟩⟩
       rw[List.any_eq_true];exact⟨_,List.getElem_mem hn,hx⟩
      ·left
       rw[if_neg hx,show(n:Int)+1=((n+1:Nat):Int) by omega,Bz (by omega)]
       refine⟨_,rfl,⟨n+1,rfl,by omega,?_⟩,by omega⟩
       rw[List.take_succ_eq_append_getElem hn,List.any_append,h2]
       simpa using hx
     ·right
      rw[if_neg (by simpa using hn)]
      refine⟨_,rfl, .inl ⟨rfl,?_⟩⟩
      rwa [List.take_of_length_le (by omega)]at h2) (s:=0) ⟨0,rfl,by omega,by simp⟩
   rw[e]
   rcases hr with ⟨rfl,hr⟩|⟨n,rfl,hr⟩
   ·exact⟨-1,rfl,by simp[hr]⟩
   ·exact⟨n,rfl,by simp[hr]⟩
  ·rw[if_neg (by simpa using h8)]
   obtain⟨r,e,hr⟩:=Nr (F:=fun(s14:Nat)=>
    if s14<l.length then
    (CZ [a,b] (EL l s14).1).bind fun x19=>
    if(decide (0≤x19))=true then
    (some ((s14:Nat):Int)).map fun r=> .inr (.inr r)
    else
    some (.inl (s14+(EL l s14).2))
    else
    some (.inr (.inl ()):_⊕Unit⊕Int)) (fun s=>l.length-s) (fun n=>n≤l.length∧(l.take n).any (two a b)=false)
    (fun r=>(r= .inl ()∧l.any (two a b)=false)∨ ∃n:Nat,r= .inr (n:Int)∧l.any (two a b)=true) (by
     rintro n ⟨h1,h2⟩
     by_cases hn:n<l.length
     ·rw[if_pos hn]
      rcases Rq l n hn with ⟨hlo,e⟩|⟨hhi,e1,e2,e3⟩
      ·simp only[e,dB a b _ hlo,Option.bind_some,find2,decide_eq_true_eq]
       by_cases hx:two a b l[n]=true
       ·right
        refine⟨_,by rw[if_pos hx];rfl, .inr ⟨n,rfl,?_⟩⟩
        rw[List.any_eq_true];exact⟨_,List.getElem_mem hn,hx⟩
       ·left
        rw[if_neg hx]
        refine⟨_,rfl,⟨by omega,?_⟩,by omega⟩
        rw[List.take_succ_eq_append_getElem hn,List.any_append,h2]
        simpa using hx
      ·left
       simp only[dC a b ha hb _ e1,Option.bind_some]
       have hle:n+(EL l n).2≤l.length:=by
        obtain⟨hj,_⟩:=e3 ((EL l n).2-1) (by omega)
        omega
       refine⟨n+(EL l n).2,by simp,⟨hle,?_⟩,by omega⟩
       rw[List.any_eq_false]at h2 ⊢
       intro x hx
       obtain⟨i,hi,rfl⟩:=List.mem_iff_getElem.1 hx
       rw[List.length_take]at hi
       rw[List.getElem_take]
       by_cases hin:i<n
       ·exact h2 _ (List.mem_iff_getElem.2 ⟨i,by rw[List.length_take];omega,by rw[List.getElem_take]⟩)
       ·obtain⟨hj,hv⟩:=e3 (i-n) (by omega)
        have:l[n+(i-n)]=l[i]:=by congr 1;omega
        rw[this]at hv
        intro ht
        simp only[two,Bool.or_eq_true,beq_iff_eq]at ht
        rcases ht with ht|ht<;>rw[ht]at hv<;>omega
     ·right
      rw[if_neg hn]
      refine⟨_,rfl, .inl ⟨rfl,?_⟩⟩
      rwa [List.take_of_length_le (by omega)]at h2) (s:=0) ⟨by omega,by simp⟩
   rw[e]
   rcases hr with ⟨rfl,hr⟩|⟨n,rfl,hr⟩
   ·exact⟨-1,rfl,by simp[hr]⟩
   ·exact⟨n,rfl,by simp[hr]⟩
 obtain⟨r,e,hr⟩:=key
 simp only[FK,e,Option.bind_some]
 congr 1
 rw[Bool.eq_iff_iff];simpa using hr
end Go.Proofs.YtobejhpigbllpaaGreatDoor.Am
namespace Go.Proofs.YtobejhpigbllpaaGreatDoor.Am
theorem YX(l:AM)(c:UInt8):Hu l [c]=some (decide (c∈l)):=by
 simp only[Hu,sX,Option.bind_some]
 congr 1
 rw[Bool.eq_iff_iff]
 simp only[decide_eq_true_eq]
 rcases jK l c with ⟨h,e⟩|⟨p,q,rfl,h,e⟩
 ·rw[e]
  exact⟨fun h=>by omega,fun hm=>absurd rfl (h c hm)⟩
 ·rw[e];simp
theorem dE(l:AM)(c:UInt8)(hl:l.length<1073741824):PX l c=some (decide (c∈l)):=by
 simp only[PX,QP l c hl,Option.bind_some]
 show some (decide ((1:Int)<((Fx c l).length:Int)))=_
 congr 1
 rw[Bool.eq_iff_iff]
 simp only[decide_eq_true_eq]
 have h:=Wo (c:=c) l
 have:0<l.countP (fun x=>x==c)↔c∈l:=by
  rw[List.countP_pos_iff]
  exact⟨fun⟨x,hx,e⟩=>by rwa [←(by simpa using e:x=c)],fun hx=>⟨c,hx,by simp⟩⟩
 rw[←this];omega
theorem any_two(l:AM)(a b:UInt8):l.any (two a b)=(decide (a∈l)||decide (b∈l)):=by
 rw[Bool.eq_iff_iff]
 simp only[List.any_eq_true,two,Bool.or_eq_true,beq_iff_eq,decide_eq_true_eq]
 constructor
 ·rintro⟨x,hx,rfl|rfl⟩
  ·exact .inl hx
  ·exact .inr hx
 ·rintro(h|h)
  ·exact⟨a,h, .inl rfl⟩
  ·exact⟨b,h, .inr rfl⟩
def QK(k v:AM):AM×Int:=if k=[]∨61∈k∨10∈k∨10∈v then([],5)else if 512<(k++[61]++v).length then([],4)else(k++[61]++v,0)
theorem Zm(k v:AM)(hk:k.length<1073741824)(hv:v.length<1073741824):((if k.length+[61].length≤2*Be then some (k++([61]:AM))else none).bind fun x10=>
  (if x10.length+v.length≤2*Be then some (x10++v)else none).bind fun x12=>
  if(decide (512<(x12.length:Int)))=true then
  some (([]:AM),(4:Int))
  else
  some (x12,0))=some (if 512<(k++[61]++v).length then([],4)else(k++[61]++v,0)):=by
 rw[if_pos (by unfold Be;simp;omega),Option.bind_some,if_pos (by unfold Be;simp;omega),Option.bind_some]
 by_cases h:512<(k++[61]++v).length
 ·rw[if_pos h,if_pos (by rw[decide_eq_true_eq];omega)]
 ·rw[if_neg h,if_neg (by rw[decide_eq_true_eq];omega)]
theorem uM(k v:AM)(hk:k.length<1073741824)(hv:v.length<1073741824):HY ⟨k,v⟩=some (QK k v):=by
 unfold HY
 simp only[VE k 61 10 (by decide) (by decide) hk,any_two,YX,Option.bind_some,Zm k v hk hv,HZ]
 by_cases h1:k=[]<;>by_cases h2:(61:UInt8)∈k<;>by_cases h3:(10:UInt8)∈k<;>by_cases h4:(10:UInt8)∈v<;>simp[QK,h1,h2,h3,h4]
theorem cC(k v:AM)(hk:k.length<1073741824)(hv:v.length<1073741824):Sm ⟨k,v⟩=some (QK k v):=by
 unfold Sm
 simp only[dE k 61 hk,dE k 10 hk,dE v 10 hv,Option.bind_some,Zm k v hk hv,HZ]
 by_cases h1:k=[]<;>by_cases h2:(61:UInt8)∈k<;>by_cases h3:(10:UInt8)∈k<;>by_cases h4:(10:UInt8)∈v<;>simp[QK,h1,h2,h3,h4]
def Aa7(a k v:AM):Prop:=a=k++61::v∧61∉k∧k≠[]∧10∉a∧a.length≤512
end Go.Proofs.YtobejhpigbllpaaGreatDoor.Am
namespace Go.Proofs.YtobejhpigbllpaaGreatDoor.Am
def RJ(l:List AM):AM:=l.flatMap fun x=>x++[10]
theorem eY(x:AM)(l:List AM):RJ (x::l)=x++10::RJ l:=by simp[RJ]
theorem aP(a b:List AM):RJ (a++b)=RJ a++RJ b:=by simp[RJ]
theorem oS(x:AM):RJ [x]=x++[10]:=by simp[RJ]
theorem eX(a:List AM)(x:AM):RJ (a++[x])=RJ a++x++[10]:=by rw[aP,oS,List.append_assoc]
theorem uK{l:List AM}{n:Nat}(h:n<l.length):RJ (l.take (n+1))=RJ (l.take n)++l[n]++[10]:=by
 rw[List.take_succ_eq_append_getElem h,eX]
theorem txt_le(l:List AM)(n:Nat):(RJ (l.take n)).length≤(RJ l).length:=by
 have:=congrArg List.length (aP (l.take n) (l.drop n))
 rw[List.take_append_drop,List.length_append]at this
 omega
theorem oT(l:List AM)(n:Nat)(h: ∀x∈l,x.length≤n):(RJ l).length≤l.length*(n+1):=by
 induction l with
 |nil=>simp[RJ]
 |cons x l ih=>
  have h1:=ih fun y hy=>h y (List.mem_cons_of_mem _ hy)
  have h2:=h x List.mem_cons_self
  rw[eY,List.length_append,List.length_cons,List.length_cons,Nat.succ_mul];omega
theorem len_txt(l:List AM):l.length≤(RJ l).length:=by
 induction l with
 |nil=>simp
 |cons x l ih=>rw[eY,List.length_append,List.length_cons,List.length_cons];omega
theorem yE(g:GS AM)(h:(RJ g.l).length≤Be):NW g=some (RJ g.l):=by
 have hl:=len_txt g.l
 unfold Be at h
 unfold NW
 refine Cd (fun s=>g.l.length-s.1.toNat) (fun s=> ∃n:Nat,s.1=n∧n≤g.l.length∧s.2=RJ (g.l.take n)) (fun r=>r= .inl (RJ g.l)) ⟨0,rfl,by omega,by simp[RJ]⟩ ?_ ?_
 rotate_left
 ·rintro _ rfl
  simp only[Sum.elim_inl,eI]
  rw[if_pos ⟨by unfold Be;exact h,fun e=>by cases e⟩];rfl
 ·rintro⟨s,b⟩ ⟨n,rfl,h1,h2⟩
  dsimp only at h2 ⊢
  subst h2
  by_cases hn:n<g.l.length
  ·have h3:=uK hn
   have h4:=txt_le g.l (n+1)
   rw[h3]at h4
   simp only[List.length_append,List.length_cons,List.length_nil]at h4
   rw[if_pos (by simpa using hn),BD,List.getElem?_eq_getElem hn]
   left
   refine⟨((n:Int)+1,RJ (g.l.take (n+1))),?_,⟨n+1,by simp,by omega,rfl⟩,by dsimp only;omega⟩
   simp only[Option.bind_some,LS]
   rw[if_pos (by unfold Be;omega)]
   simp only[Option.bind_some]
   rw[if_pos (by unfold Be;simp;omega),Option.bind_some,←h3,show(n:Int)+1=((n+1:Nat):Int) by omega,Bz (by omega)]
  ·right
   rw[if_neg (by simpa using hn)]
   exact⟨_,rfl,by rw[List.take_of_length_le (by omega)]⟩
end Go.Proofs.YtobejhpigbllpaaGreatDoor.Am
namespace Go.Proofs.YtobejhpigbllpaaGreatDoor.Am
theorem Xw{α:Type}{q:α→Bool}: ∀{l:List α} {n:Nat} {x:α},l[n]? =some x→(∀y∈l.take n,q y=false)→q x=true→l.find? q=some x
 |[],_,_,h,_,_=>by simp at h
 |y::l,0,x,h,_,hq=>by simp only[List.getElem?_cons_zero,Option.some.injEq]at h;subst h;simp[hq]
 |y::l,n+1,x,h,ha,hq=>by
  have h1:=ha y (by simp)
  rw[List.find?_cons,h1]
  exact Xw (n:=n) (by simpa using h) (fun z hz=>ha z (by simp[hz])) hq
def Re(p:A7):AM×Int:=QK p.Key p.Value
def Tg(p:A7):Bool:=decide ((Re p).2≠0)
def GC(p:A7):AM:=p.Key++61::p.Value
def Uo(l:List A7):AM×Int:=
 if 400<l.length then([],4)else match l.find? Tg with
  |some p=>([],(Re p).2)
  |none=>(RJ (l.map GC)++[10],0)
theorem uN{k v:AM}(h:(QK k v).2=0):(QK k v).1=k++61::v∧Aa7 (k++61::v) k v:=by
 unfold QK at h ⊢
 by_cases hc:k=[]∨61∈k∨10∈k∨10∈v
 ·rw[if_pos hc]at h;simp at h
 ·rw[if_neg hc]at h ⊢
  by_cases hl:512<(k++[61]++v).length
  ·rw[if_pos hl]at h;simp at h
  ·rw[if_neg hl]
   refine⟨by simp,rfl,fun h=>hc (.inr (.inl h)),fun h=>hc (.inl h),fun h=> ?_,by simp at hl ⊢;omega⟩
   simp only[List.mem_append,List.mem_cons]at h
   rcases h with h|h|h
   ·exact hc (.inr (.inr (.inl h)))
   ·exact absurd h (by decide)
   ·exact hc (.inr (.inr (.inr h)))
theorem fA{k v:AM}(s:Aa7 (k++61::v) k v):QK k v=(k++61::v,0):=by
 have hm:=s.2.2.2.1
 have hle:=s.2.2.2.2
 simp only[List.mem_append,List.mem_cons,not_or]at hm
 unfold QK
 rw[if_neg (by
  rintro(h|h|h|h)
  ·exact s.2.2.1 h
  ·exact s.2.1 h
  ·exact hm.1 h
  ·exact hm.2.2 h),if_neg (by simp at hle ⊢;omega)]
 simp
theorem XU{p:A7}(h:Tg p=false):Re p=(GC p,0)∧Aa7 (GC p) p.Key p.Value:=by
 simp only[Tg,ne_eq,decide_not,Bool.not_eq_false',decide_eq_true_eq]at h
 obtain⟨h1,h2⟩:=uN h
 exact⟨Prod.ext h1 h,h2⟩
theorem tZ{p:A7}(h:Tg p=true):(Re p).2≠0:=by simpa [Tg]using h
theorem badP_of{p:A7}(s:Aa7 (GC p) p.Key p.Value):Tg p=false:=by
 have:=fA s
 simp[Tg,Re,this]
def FitP(l:List A7):Prop:= ∀p∈l,p.Key.length<1073741824∧p.Value.length<1073741824
theorem sM{l:List A7}(h: ∀p∈l,Tg p=false)(hl:l.length≤400):(RJ (l.map GC)).length≤205200:=by
 have:=oT (l.map GC) 512 (fun x hx=>by
  obtain⟨p,hp,rfl⟩:=List.mem_map.1 hx
  exact(XU (h p hp)).2.2.2.2.2)
 rw[List.length_map]at this
 have h2:l.length*513≤400*513:=Nat.mul_le_mul_right _ hl
 omega
theorem ZY(g:GS A7)(hf:FitP g.l):Ei g=some (Uo g.l):=by
 unfold Ei Uo
 by_cases h4:400<g.l.length
 ·rw[if_pos h4,if_pos (by rw[decide_eq_true_eq];omega)]
 rw[if_neg h4,if_neg (by rw[decide_eq_true_eq];omega)]
 refine Cd (fun s=>g.l.length-s.1.toNat) (fun s=> ∃n:Nat,s.1=n∧n≤g.l.length∧(∀p∈g.l.take n,Tg p=false)∧s.2.l=(g.l.take n).map GC)
  (fun r=>(∃b:GS AM,r= .inl b∧(∀p∈g.l,Tg p=false)∧b.l=g.l.map GC)∨ ∃p,r= .inr ([],(Re p).2)∧g.l.find? Tg=some p) ⟨0,rfl,by omega,by simp,rfl⟩ ?_ ?_
 ·rintro⟨s,b⟩ ⟨n,rfl,h1,h2,h3⟩
  dsimp only at h3 ⊢
  by_cases hn:n<g.l.length
  ·rw[if_pos (by simpa using hn),BD,List.getElem?_eq_getElem hn]
   have hfit:=hf _ (List.getElem_mem hn)
   have ht:HY g.l[n]=some (Re g.l[n]):=uM _ _ hfit.1 hfit.2
   simp only[Option.bind_some,ht]
   by_cases hb:Tg g.l[n]=true
   ·right
    rw[if_pos (by simpa using tZ hb)]
    exact⟨_,rfl, .inr ⟨_,rfl,Xw (List.getElem?_eq_getElem hn) h2 hb⟩⟩
   ·left
    have hb':Tg g.l[n]=false:=by simpa using hb
    obtain⟨e,_⟩:=XU hb'
    rw[e]
    have hlen:b.l.length=n:=by rw[h3,List.length_map,List.length_take];omega
    rw[Kn (by unfold Be;omega),show(n:Int)+1=((n+1:Nat):Int) by omega,Bz (by omega)]
    refine⟨(((n+1:Nat):Int), .mk (b.l++[GC g.l[n]])),by simp,⟨n+1,rfl,by omega,fun p hp=> ?_,?_⟩,by dsimp only;omega⟩
    ·rw[List.take_succ_eq_append_getElem hn]at hp
     rcases List.mem_append.1 hp with hp|hp
     ·exact h2 p hp
     ·rw[List.mem_singleton.1 hp];exact hb'
    ·rw[List.take_succ_eq_append_getElem hn,List.map_append,←h3];rfl
  ·right
   rw[if_neg (by simpa using hn)]
   rw[List.take_of_length_le (by omega)]at h2 h3
   exact⟨_,rfl, .inl ⟨b,rfl,h2,h3⟩⟩
 ·rintro _ (⟨b,rfl,h1,h2⟩|⟨p,rfl,h⟩)
  ·have hlen:b.l.length=g.l.length:=by rw[h2,List.length_map]
   have hfind:g.l.find? Tg=none:=by rw[List.find?_eq_none];exact fun x hx=>by simp[h1 x hx]
   have hfit:=sM h1 (by omega)
   have ht:RJ (b.l++[[]])=RJ (g.l.map GC)++[10]:=by rw[h2,eX];simp
   simp only[Sum.elim_inl,hfind]
   rw[Kn (by unfold Be;omega),Option.bind_some,yE _ (by rw[EY,ht];unfold Be;simp;omega),EY,ht]
   rfl
  ·simp only[Sum.elim_inr,h]
end Go.Proofs.YtobejhpigbllpaaGreatDoor.Am
namespace Go.Proofs.YtobejhpigbllpaaGreatDoor.Am
theorem TY{σ β γ:Type}{F:σ→Option (σ⊕β)}{s:σ}{K:β→Option γ}{r:Option γ}(n:Nat)(b:β)(h:HO F n s=some b)(hk:K b=r):(iter F s).bind K=r:=by
 rw[Md h];exact hk
def K8:Nat→Nat→AM
 |0,_=>[]
 |k+1,n=>if n<10 then [UInt8.ofNat (48+n)]else K8 k (n/10)++[UInt8.ofNat (48+n%10)]
def Dw(n:Nat):AM:=K8 20 n
theorem XC: ∀(k n:Nat),n<10^(k+1)→K8 (k+2) n=K8 (k+1) n
 |0,n,h=>by
  have h:n<10:=by simpa using h
  simp[K8,h]
 |k+1,n,h=>by
  by_cases hn:n<10
  ·simp[K8,hn]
  ·have hd:n/10<10^(k+1):=by
    rw[Nat.div_lt_iff_lt_mul (by decide),←Nat.pow_succ];exact h
   have ih:=XC k (n/10) hd
   rw[K8,if_neg hn,ih]
   conv=>rhs;rw[K8,if_neg hn]
theorem qK{n:Nat}(h:n<18446744073709551616):Dw n=if n<10 then [UInt8.ofNat (48+n)]else Dw (n/10)++[UInt8.ofNat (48+n%10)]:=by
 unfold Dw
 rw[XC 18 (n/10) (by omega)]
 rfl
theorem ZT: ∀(k n:Nat),(K8 k n).length≤k
 |0,_=>by simp[K8]
 |k+1,n=>by
  rw[K8]
  split
  ·simp
  ·simp[ZT k]
theorem Hl(n:Nat):(Dw n).length≤20:=ZT 20 n
theorem Wl{m:Nat}(h:m<18446744073709551616):(IT.u64.ofI (m:Int)).toNat=m:=by
 show(UInt64.ofNat ((m:Int)%18446744073709551616).toNat).toNat=m
 rw[show((m:Int)%18446744073709551616).toNat=m by omega]
 simp[UInt64.toNat_ofNat,h]
theorem u8_of{m:Nat}(h:m<256):IT.u8.ofI (m:Int)=UInt8.ofNat m:=by
 show UInt8.ofNat ((m:Int)%256).toNat=_
 rw[show((m:Int)%256).toNat=m by omega]
theorem r03_r: ∀(k:Nat) (a:UInt64),(DP k a=none∨DP k a=some (Dw a.toNat))∧(a.toNat<10^(k+1)→DP (k+1) a=some (Dw a.toNat)):=by
 have step: ∀(k:Nat) (a:UInt64),DP (k+1) a=if a.toNat<10 then some (Dw a.toNat)else(DP k (IT.u64.ofI ((a.toNat/10:Nat):Int))).bind fun x=>if x.length+1≤2*Be then some (x++[UInt8.ofNat (48+a.toNat%10)])else none:=by
  intro k a
  have ha:=a.toNat_lt
  have e10:((10:UInt64).toNat:Int)=((10:Nat):Int):=rfl
  have e48:((48:UInt64).toNat:Int)=((48:Nat):Int):=rfl
  have hm:(IT.u64.ofI (Int.tmod (a.toNat:Int) ((10:Nat):Int))).toNat=a.toNat%10:=by
   rw[←Int.ofNat_tmod,Wl (by omega)]
  have h48:(IT.u64.ofI (((48:Nat):Int)+((a.toNat%10:Nat):Int))).toNat=48+a.toNat%10:=by
   rw[show(((48:Nat):Int)+((a.toNat%10:Nat):Int))=((48+a.toNat%10:Nat):Int) by omega,Wl (by omega)]
  rw[DP,e10,if_neg (by decide),Option.bind_some]
  simp only[e48,hm,h48]
  rw[u8_of (by omega)]
  by_cases hl:a.toNat<10
  ·rw[if_pos (by rw[decide_eq_true_eq];omega),if_pos hl,qK (by omega),if_pos hl,show 48+a.toNat%10=48+a.toNat by omega]
  ·rw[if_neg (by rw[decide_eq_true_eq];omega),if_neg hl,if_neg (by decide),Option.bind_some,←Int.ofNat_tdiv]
   cases DP k (IT.u64.ofI ((a.toNat/10:Nat):Int))with
   |none=>rfl
   |some x=>simp[Option.bind_some]
 have fin: ∀(k:Nat) (a:UInt64),¬a.toNat<10→DP k (IT.u64.ofI ((a.toNat/10:Nat):Int))=some (Dw (IT.u64.ofI ((a.toNat/10:Nat):Int)).toNat)→DP (k+1) a=some (Dw a.toNat):=by
  intro k a hl e
  have ha:=a.toNat_lt
  rw[step,if_neg hl,e,Wl (by omega),Option.bind_some,if_pos (by have:=Hl (a.toNat/10);unfold Be;omega)]
  conv=>rhs;rw[qK (by omega),if_neg hl]
 intro k
 induction k with
 |zero=>
  intro a
  refine⟨.inl rfl,fun h=> ?_⟩
  rw[step,if_pos (by simpa using h)]
 |succ k ih=>
  intro a
  have ha:=a.toNat_lt
  refine⟨?_,fun h=> ?_⟩
  ·by_cases hl:a.toNat<10
   ·right;rw[step,if_pos hl]
   ·rcases(ih (IT.u64.ofI ((a.toNat/10:Nat):Int))).1 with e|e
    ·left;rw[step,if_neg hl,e];rfl
    ·right;exact fin k a hl e
  ·by_cases hl:a.toNat<10
   ·rw[step,if_pos hl]
   ·refine fin (k+1) a hl ((ih _).2 ?_)
    rw[Wl (by omega),Nat.div_lt_iff_lt_mul (by decide),←Nat.pow_succ]
    exact h
theorem Su(a:UInt64):FN a=some (Dw a.toNat):=
 jD (fun n=>(r03_r n a).1) ((r03_r 19 a).2 (by have:=a.toNat_lt;omega))
def ZJ{α:Type}:List α→GS α
 |[]=> .nil
 |x::l=> .mk (x::l)
theorem QX{α:Type}: ∀l:List α,(ZJ l).l=l
 |[]=>rfl
 |_::_=>rfl
theorem PD{α:Type}: ∀(l:List α) (x:α),ZJ (l++[x])= .mk (l++[x])
 |[],_=>rfl
 |_::_,_=>rfl
theorem TK(l:GS Ap)(ps:List (A7×Int))(h:l.l.map FE=ps.map some)(hl:l.l.length<1000000000):Gv l=some (ZJ (ps.map (·.1))):=by
 have hlen:l.l.length=ps.length:=by have:=congrArg List.length h;simpa using this
 unfold Gv
 refine Cd (fun s=>l.l.length-s.1.toNat) (fun s=> ∃n:Nat,s.1=n∧n≤l.l.length∧s.2=ZJ ((ps.take n).map (·.1))) (fun r=>r= .inl (ZJ (ps.map (·.1)))) ⟨0,rfl,by omega,rfl⟩ ?_ ?_
 rotate_left
 ·rintro _ rfl;rfl
 ·rintro⟨s,b⟩ ⟨n,rfl,h1,h2⟩
  dsimp only at h2 ⊢
  subst h2
  by_cases hn:n<l.l.length
  ·rw[if_pos (by simpa using hn),BD,List.getElem?_eq_getElem hn]
   have hp:FE l.l[n]=some (ps[n]'(by omega)):=by
    have:=congrArg (fun x=>x[n]?) h
    simp only[List.getElem?_map,List.getElem?_eq_getElem hn,List.getElem?_eq_getElem (show n<ps.length by omega),Option.map_some,Option.some.injEq]at this
    exact this
   have hbl:(ZJ ((ps.take n).map (·.1))).l.length=n:=by rw[QX,List.length_map,List.length_take];omega
   left
   simp only[Option.bind_some,hp]
   rw[Kn (by unfold Be;omega),show(n:Int)+1=((n+1:Nat):Int) by omega,Bz (by omega)]
   refine⟨_,rfl,⟨n+1,rfl,by omega,?_⟩,by dsimp only;omega⟩
   rw[List.take_succ_eq_append_getElem (by omega),List.map_append,QX]
   exact(PD _ _).symm
  ·right
   rw[if_neg (by simpa using hn)]
   exact⟨_,rfl,by rw[List.take_of_length_le (by omega)]⟩
def QD(n:Nat):Ap:=⟨16,(Ay 32 T.u8).z,UInt64.ofNat n,Ao.z,Aj.z⟩
def X7(n:Nat):A7:=⟨[101,114,114,110,111],Dw n⟩
theorem gJ: ∀n:Fin 21,FE (QD n.1)=some (X7 n.1,0):=by decide+kernel
def fitB(l:List A7):Bool:=l.all fun p=>decide (p.Key.length<1073741824)&&decide (p.Value.length<1073741824)
theorem tG{l:List A7}(h:fitB l=true):FitP l:=by
 intro p hp
 have:=List.all_eq_true.1 h p hp
 simpa using this
theorem kX{g:GS A7}{r:AM×Int}(hf:fitB g.l=true)(h:Uo g.l=r):Ei g=some r:=by
 rw[ZY g (tG hf),h]
def cA(n:Nat):AM:=[101,114,114,110,111,61]++Dw n++[10,10]
theorem oC: ∀n:Fin 21,fitB [X7 n.1]=true∧Uo [X7 n.1]=(cA n.1,0):=by decide+kernel
theorem lR{n:Nat}(h:n<21):Hf (n:Int)=some (cA n):=by
 have h1:=gJ ⟨n,h⟩
 have h2:=oC ⟨n,h⟩
 have e:(IT.u64.ofI (n:Int))=UInt64.ofNat n:=by
  show UInt64.ofNat ((n:Int)%18446744073709551616).toNat=_
  rw[show((n:Int)%18446744073709551616).toNat=n by omega]
 unfold Hf
 have ho:HZ (decide ((n:Int)<0)) (some (decide (20<(n:Int))))=some false:=by
  rw[decide_eq_false (by omega),decide_eq_false (by omega)];rfl
 have hp:Gv (GS.mk [(⟨16,(Ay 32 T.u8).z,IT.u64.ofI (n:Int),Ao.z,Aj.z⟩:Ap)])=some (.mk [X7 n]):=by
  have e2:(⟨16,(Ay 32 T.u8).z,IT.u64.ofI (n:Int),Ao.z,Aj.z⟩:Ap)=QD n:=congrArg (fun x=>(⟨16,(Ay 32 T.u8).z,x,Ao.z,Aj.z⟩:Ap)) e
  rw[e2]
  exact TK (.mk [QD n]) [(X7 n,0)] (by simp only[EY,List.map_cons,List.map_nil];exact congrArg (fun x=>[x]) h1) (by simp)
 have hb:Ei (.mk [X7 n])=some (cA n,0):=kX h2.1 h2.2
 simp only[ho,Option.bind_some,Bool.false_eq_true,if_false,hp,hb]
theorem r39_in{n:Nat}(h:n<21):IG (n:Int)=some (cA n):=by
 unfold IG
 have ho:HZ (decide ((n:Int)<0)) (some (decide (20<(n:Int))))=some false:=by
  rw[decide_eq_false (by omega),decide_eq_false (by omega)];rfl
 have hd:=Hl n
 have hv:FN (IT.u64.ofI (n:Int))=some (Dw n):=by
  have:=Su (IT.u64.ofI (n:Int))
  rw[Wl (show n<18446744073709551616 by omega)]at this
  exact this
 simp only[ho,Option.bind_some,Bool.false_eq_true,if_false,hv]
 rw[if_pos (by unfold Be;simp;omega)]
 simp only[Option.bind_some]
 rw[if_pos (by unfold Be;simp;omega)]
 rfl
def qL:B4:=⟨(Ay 32 T.u8).z,0,0, .nil⟩
def eS:AM:=List.replicate 64 48
theorem yJ:Hz (.mk (List.replicate 32 0))=some eS:=by
 unfold Hz
 exact TY 33 (.inl eS) (by decide+kernel) (by decide+kernel)
theorem right0:JC qL=some true:=by
 unfold JC
 have h1:JB qL.Port=some true:=by decide+kernel
 simp only[h1,Option.bind_some]
 exact TY 1 (.inl []) (by decide+kernel) (by decide+kernel)
def Vq:Ap:=⟨1,(Ay 32 T.u8).z,0,Ao.z,Aj.z⟩
def sO:A7:=⟨[112,114,105,118,97,116,101,95,107,101,121],eS⟩
theorem hexK:Nn Vq.Key=some eS:=by
 have h:(Vq.Key.l.drop 0).take 32=List.replicate 32 0:=by decide+kernel
 unfold Nn
 rw[h,if_pos (by decide),yJ]
 rfl
theorem yC:FB Vq=some (eS,true):=by
 unfold FB;simp only[hexK,Option.bind_some]
theorem vV:FE Vq=some (sO,0):=by
 have hn:G2 Vq.Word=some [112,114,105,118,97,116,101,95,107,101,121]:=by decide+kernel
 have h3:MI Vq=some Vq:=by decide+kernel
 have hc:HH CF Vq (⟨Vq.Word,(Ay 32 T.u8).z,0,Ao.z,Aj.z⟩:Ap)=true:=by decide+kernel
 have h1:decide (Vq.Word=1)=true:=rfl
 have hr:Gf Vq=some true:=by
  unfold Gf
  simp only[hn,h1,Option.bind_some,yC,h3,hc,if_true,Sum.elim_inl]
  rfl
 unfold FE
 simp only[hr,hn,h1,Option.bind_some,yC,if_true,Sum.elim_inl]
 rfl
def portF:Ap:=⟨2,(Ay 32 T.u8).z,0,Ao.z,Aj.z⟩
def Z0:A7:=⟨[108,105,115,116,101,110,95,112,111,114,116],[48]⟩
def markF:Ap:=⟨3,(Ay 32 T.u8).z,0,Ao.z,Aj.z⟩
def ZD:A7:=⟨[102,119,109,97,114,107],[48]⟩
theorem rZ:FE portF=some (Z0,0):=by decide+kernel
theorem sA:FE markF=some (ZD,0):=by decide+kernel
def Wm:AM:=GC sO++[10]++GC Z0++[10]++GC ZD++[10]++GC (X7 0)++[10,10]
theorem zX:fitB [sO,Z0,ZD,X7 0]=true∧Uo [sO,Z0,ZD,X7 0]=(Wm,0):=by decide+kernel
theorem rC:He qL=some (Wm,0):=by
 have e0:QD 0=(⟨16,(Ay 32 T.u8).z,0,Ao.z,Aj.z⟩:Ap):=rfl
 unfold He
 simp only[right0,Option.bind_some,Bool.not_true,Bool.false_eq_true,if_false]
 refine TY 1 (.inl (.mk [Vq,portF,markF])) rfl ?_
 simp only[Sum.elim_inl,←e0]
 rw[Kn (by unfold Be;simp),Option.bind_some]
 rw[TK _ [(sO,0),(Z0,0),(ZD,0),(X7 0,0)] (by simp only[EY,List.map_append,List.map_cons,List.map_nil,vV,rZ,sA,List.cons_append,List.nil_append];rw[gJ ⟨0,by decide⟩]) (by simp)]
 simp only[Option.bind_some,List.map_cons,List.map_nil,ZJ]
 rw[kX (g:= .mk [sO,Z0,ZD,X7 0]) zX.1 zX.2]
 rfl
theorem MB:Nm ()=some true:=by
 have hl: ∃g,Qc Wm=some g∧(g.l.length:Int)=5:=by
  have hp:=QP Wm 10 (by decide+kernel)
  have h6:(Fx 10 Wm).length=6∧(Fx 10 Wm)[5]? =some []:=by decide+kernel
  unfold Qc
  simp only[hp,Option.bind_some,EY]
  have hw:IntKind.i64.wrap (((Fx 10 Wm).length:Int)-1)=((5:Nat):Int):=by rw[h6.1];decide
  rw[hw,BD,h6.2,slG_to (by omega)]
  exact⟨_,rfl,by simp[h6.1]⟩
 obtain⟨g,hg,h5⟩:=hl
 unfold Nm
 have e:(⟨(Ay 32 T.u8).z,0,0, .nil⟩:B4)=qL:=rfl
 have h7:Hf 7=some (cA 7):=lR (n:=7) (by omega)
 rw[e,rC]
 simp only[Option.bind_some,hg,h5,h7]
 decide+kernel
end Go.Proofs.YtobejhpigbllpaaGreatDoor.Am
namespace Go.Proofs.YtobejhpigbllpaaGreatDoor.Am
def vW:Nat→Nat→AM
 |0,_=>[]
 |w+1,n=>vW w (n/10)++[UInt8.ofNat (48+n%10)]
theorem kQ: ∀(N k n:Nat),N<k→n<10^(N+1)→(N=0∨10^N≤n)→K8 k n=vW (N+1) n
 |0,k+1,n,_,h,_=>by
  have hn:n<10:=by simpa using h
  rw[K8,if_pos hn]
  simp[vW,Nat.mod_eq_of_lt hn]
 |N+1,k+1,n,hk,h,h'=>by
  have h1:10^(N+1)≤n:=h'.resolve_left (by omega)
  have h10:10≤n:=Nat.le_trans (by rw[Nat.pow_succ];have:=Nat.pow_pos (n:=N) (show 0<10 by decide);omega) h1
  rw[K8,if_neg (by omega),kQ N k (n/10) (by omega) ((Nat.div_lt_iff_lt_mul (by decide)).2 (by rw[←Nat.pow_succ];exact h)) (.inr ((Nat.le_div_iff_mul_le (by decide)).2 (by rw[←Nat.pow_succ];exact h1)))]
  rfl
theorem JY{m:Nat}(h:m<18446744073709551616):(BQ (m:Int)).toNat=m:=u64N h
theorem N9{m:Nat}(h:m<4294967296):(C8 (m:Int)).toNat=m:=by
 show(UInt32.ofNat ((m:Int)%4294967296).toNat).toNat=m
 rw[show((m:Int)%4294967296).toNat=m by omega]
 simp[UInt32.toNat_ofNat,h]
theorem mod64(x c:UInt64)(hc:0<c.toNat): ∃y:UInt64,(if(c.toNat:Int)=0 then none else some (BQ (Int.tmod (x.toNat:Int) (c.toNat:Int))))=some y∧y.toNat=x.toNat%c.toNat:=
 ⟨_,if_neg (by omega),by rw[←Int.ofNat_tmod,JY (by have:=x.toNat_lt;have:=Nat.mod_le x.toNat c.toNat;omega)]⟩
theorem div64(x c:UInt64)(hc:0<c.toNat): ∃y:UInt64,(if(c.toNat:Int)=0 then none else some (BQ (Int.tdiv (x.toNat:Int) (c.toNat:Int))))=some y∧y.toNat=x.toNat/c.toNat:=
 ⟨_,if_neg (by omega),by rw[←Int.ofNat_tdiv,JY (by have:=x.toNat_lt;have:=Nat.div_le_self x.toNat c.toNat;omega)]⟩
theorem ZB(x c:UInt32)(hc:0<c.toNat): ∃y:UInt32,(if(c.toNat:Int)=0 then none else some (C8 (Int.tmod (x.toNat:Int) (c.toNat:Int))))=some y∧y.toNat=x.toNat%c.toNat:=
 ⟨_,if_neg (by omega),by rw[←Int.ofNat_tmod,N9 (by have:=x.toNat_lt;have:=Nat.mod_le x.toNat c.toNat;omega)]⟩
theorem ZS(x c:UInt32)(hc:0<c.toNat): ∃y:UInt32,(if(c.toNat:Int)=0 then none else some (C8 (Int.tdiv (x.toNat:Int) (c.toNat:Int))))=some y∧y.toNat=x.toNat/c.toNat:=
 ⟨_,if_neg (by omega),by rw[←Int.ofNat_tdiv,N9 (by have:=x.toNat_lt;have:=Nat.div_le_self x.toNat c.toNat;omega)]⟩
theorem XD(x:UInt32)(h:x.toNat<1000):(C8 ((x.toNat:Int)*((2:UInt32).toNat:Int))).toNat=2*x.toNat:=by
 rw[show((x.toNat:Int)*((2:UInt32).toNat:Int))=((2*x.toNat:Nat):Int) by rw[show((2:UInt32).toNat:Int)=2 from rfl];omega,N9 (by omega)]
theorem inc32(x:UInt32)(h:x.toNat<1000):((C8 ((x.toNat:Int)+((1:UInt32).toNat:Int))).toNat:Int)=((x.toNat+1:Nat):Int):=by
 rw[show((x.toNat:Int)+((1:UInt32).toNat:Int))=((x.toNat+1:Nat):Int) by rw[show((1:UInt32).toNat:Int)=1 from rfl];omega,N9 (by omega)]
def bG:AM:=[48,48,48,49,48,50,48,51,48,52,48,53,48,54,48,55,48,56,48,57,49,48,49,49,49,50,49,51,49,52,49,53,49,54,49,55,49,56,49,57,50,48,50,49,50,50,50,51,50,52,50,53,50,54,50,55,50,56,50,57,51,48,51,49,51,50,51,51,51,52,51,53,51,54,51,55,51,56,51,57,52,48,52,49,52,50,52,51,52,52,52,53,52,54,52,55,52,56,52,57,53,48,53,49,53,50,53,51,53,52,53,53,53,54,53,55,53,56,53,57,54,48,54,49,54,50,54,51,54,52,54,53,54,54,54,55,54,56,54,57,55,48,55,49,55,50,55,51,55,52,55,53,55,54,55,55,55,56,55,57,56,48,56,49,56,50,56,51,56,52,56,53,56,54,56,55,56,56,56,57,57,48,57,49,57,50,57,51,57,52,57,53,57,54,57,55,57,56,57,57]
theorem lL: ∀k:Fin 100,bG[2*k.1+1]? =some (UInt8.ofNat (48+k.1%10))∧bG[2*k.1]? =some (UInt8.ofNat (48+k.1/10)):=by decide+kernel
def YE(A:Ar UInt8 24)(o k:Nat):Ar UInt8 24:=(A.set (o+1) (UInt8.ofNat (48+k%10))).set o (UInt8.ofNat (48+k/10))
theorem NM{N i o k:Nat}{A:Ar UInt8 24}{x:UInt32}{c d:Int}{γ:Type}{K:Ar UInt8 24→Option γ}(hN:N≤24)(hi:i≤N)(hx:x.toNat=2*k)(hk:k<100)(hc:(i:Int)-c=((o+1:Nat):Int))(hd:(i:Int)-d=(o:Nat))(ho:o+1<N):
  ((Fo bG ((C8 ((x.toNat:Int)+((1:UInt32).toNat:Int))).toNat:Int)).bind fun y=>(Fo bG (x.toNat:Int)).bind fun z=>
   (if 0+N*1≤24 then DQ N (IntKind.i64.wrap ((i:Int)-c))else none).bind fun p=>(if p<24 then some (A.set p y)else none).bind fun B=>
   (if 0+N*1≤24 then DQ N (IntKind.i64.wrap ((i:Int)-d))else none).bind fun q=>(if q<24 then some (B.set q z)else none).bind K)=K (YE A o k):=by
 obtain⟨g1,g2⟩:=lL ⟨k,hk⟩
 rw[inc32 x (by omega),hx,BD,BD,g1,g2,hc,hd,Bz (by omega),Bz (by omega),if_pos (by omega),if_pos (by omega),Cl (by omega),Cl (by omega)]
 simp only[Option.bind_some]
 rw[if_pos (by omega)]
 simp only[Option.bind_some]
 rw[if_pos (by omega)]
 rfl
def VP(N a i u:Nat)(A:Ar UInt8 24):Prop:=i≤N∧u<10^i∧vW N a=vW i u++(A.l.take N).drop i
theorem setTwo{l:List UInt8}{N o:Nat}{x y:UInt8}(h:o+1<N)(hl:N≤l.length):(((l.set (o+1) y).set o x).take N).drop o=x::y::(l.take N).drop (o+2):=by
 apply List.ext_getElem?
 intro j
 rw[List.getElem?_drop,List.getElem?_take,List.getElem?_set,List.getElem?_set]
 match j with
 |0=>simp;omega
 |1=>simp;omega
 |j+2=>
  simp only[List.getElem?_cons_succ,List.getElem?_drop,List.getElem?_take]
  rw[if_neg (show¬o=o+(j+2) by omega),if_neg (show¬o+1=o+(j+2) by omega),show o+(j+2)=o+2+j by omega]
theorem VP.two{N a i u o k:Nat}{A:Ar UInt8 24}(h:VP N a i u A)(hN:N≤24)(ho:i=o+2)(hk:k=u%100):VP N a o (u/100) (YE A o k):=by
 obtain⟨h1,h2,h3⟩:=h
 subst ho hk
 refine⟨by omega,?_,?_⟩
 ·rw[Nat.div_lt_iff_lt_mul (by decide)]
  rw[show 10^o*100=10^(o+2) by rw[Nat.pow_succ,Nat.pow_succ,Nat.mul_assoc]]
  exact h2
 ·have hs:((YE A o (u%100)).l.take N).drop o=UInt8.ofNat (48+u%100/10)::UInt8.ofNat (48+u%100%10)::(A.l.take N).drop (o+2):=setTwo (by omega) (by rw[A.len];exact hN)
  rw[hs,h3]
  simp only[vW,List.append_assoc,List.cons_append,List.nil_append]
  rw[show u/10/10=u/100 by omega,show u/10%10=u%100/10 by omega,show u%10=u%100%10 by omega]
theorem VP.one{N a i u:Nat}{A:Ar UInt8 24}(h:VP N a i u A)(hN:N≤24)(hi:i=1):VP N a 0 0 (A.set 0 (UInt8.ofNat (48+u))):=by
 obtain⟨h1,h2,h3⟩:=h
 subst hi
 have hu:u<10:=by simpa using h2
 refine⟨by omega,by simp,?_⟩
 rw[h3]
 have:(A.set 0 (UInt8.ofNat (48+u))).l=A.l.set 0 (UInt8.ofNat (48+u)):=rfl
 rw[this]
 cases hA:A.l with
 |nil=>have:=A.len;rw[hA]at this;simp at this
 |cons y l=>
  match N,h1 with
  |N+1,_=>simp[vW,Nat.mod_eq_of_lt hu]
theorem shr64(x c:UInt64)(hc:c.toNat<64): ∃y:UInt64,(if(c.toNat:Int)<0 then none else some (BQ (Int.fdiv (x.toNat:Int) (2^(min ((c.toNat:Int).toNat) 64)))))=some y∧y.toNat=x.toNat/2^c.toNat:=by
 refine⟨_,if_neg (by omega),?_⟩
 rw[Int.toNat_natCast,Nat.min_eq_left (by omega),show(2:Int)^c.toNat=((2^c.toNat:Nat):Int) by push_cast;rfl,←Int.ofNat_fdiv,JY]
 exact Nat.lt_of_le_of_lt (Nat.div_le_self _ _) (by have:=x.toNat_lt;omega)
theorem aS{γ:Type}{x c b:UInt64}{n:Nat}{d e:Int}{K:UInt64×Int→Option γ}{r:Option γ}(hb:b.toNat=2^c.toNat)(hc:c.toNat<64)(hd:d=(n:Nat))(he:e=((n+c.toNat:Nat):Int))
  (hK: ∀(y:UInt64) (k:Nat),k≤c.toNat→y.toNat=x.toNat/2^k→(1≤x.toNat→1≤y.toNat)→(x.toNat<2^c.toNat*2^c.toNat→y.toNat<2^c.toNat)→K (y,((n+k:Nat):Int))=r):
  ((if(decide ((b.toNat:Int)≤(x.toNat:Int)))=true then
   (if(c.toNat:Int)<0 then none else some (BQ (Int.fdiv (x.toNat:Int) (2^(min ((c.toNat:Int).toNat) 64))))).bind fun z=>some (.inl (z,e))
   else some (.inl (x,d)):Option ((UInt64×Int)⊕γ)).bind (Sum.elim K some))=r:=by
 by_cases h:b.toNat≤x.toNat
 ·rw[if_pos (by simpa using h)]
  obtain⟨y,e1,e2⟩:=shr64 x c hc
  rw[e1,he]
  refine hK y c.toNat (Nat.le_refl _) e2 (fun _=> ?_) (fun h2=> ?_)
  ·rw[e2,Nat.le_div_iff_mul_le (Nat.pow_pos (by decide)),Nat.one_mul,←hb];exact h
  ·rw[e2];exact(Nat.div_lt_iff_lt_mul (Nat.pow_pos (by decide))).2 h2
 ·rw[if_neg (by simpa using h),hd]
  exact hK x 0 (Nat.zero_le _) (by simp) id (fun _=>by omega)
def len8:AM:=[0,1,2,2,3,3,3,3,4,4,4,4,4,4,4,4,5,5,5,5,5,5,5,5,5,5,5,5,5,5,5,5]++List.replicate 32 6++List.replicate 64 7++List.replicate 128 8
theorem xX: ∀v:Fin 256,∃t,len8[v.1]? =some t∧(1≤v.1→v.1<2^t.toNat∧2^(t.toNat-1)≤v.1∧1≤t.toNat∧t.toNat≤8):=by
 have key: ∀v:Fin 256,(match len8[v.1]? with|some t=>decide (1≤v.1→v.1<2^t.toNat∧2^(t.toNat-1)≤v.1∧1≤t.toNat∧t.toNat≤8)|none=>false)=true:=by decide+kernel
 intro v
 have:=key v
 split at this
 ·rename_i t e;exact⟨t,e,of_decide_eq_true this⟩
 ·cases this
set_option maxRecDepth 20000 in
theorem sN(a:UInt64)(h:1≤a.toNat): ∃L:Nat,GB a=some (L:Int)∧1≤L∧L≤64∧a.toNat<2^L∧2^(L-1)≤a.toNat:=by
 have ha:=a.toNat_lt
 have key: ∀r,(∀L:Nat,1≤L→L≤64→a.toNat<2^L→2^(L-1)≤a.toNat→r=some (L:Int))→GB a=r:=by
  intro r hr
  unfold GB
  refine aS (n:=0) (c:=32) (b:=4294967296) rfl (by decide) rfl rfl fun y1 k1 g1 e1 p1 q1=> ?_
  refine aS (n:=0+k1) (c:=16) (b:=65536) rfl (by decide) rfl (by rw[show(16:UInt64).toNat=16 from rfl,show(32:UInt64).toNat=32 from rfl]at*;rw[Zj (by omega) (by omega)];push_cast;rfl) fun y2 k2 g2 e2 p2 q2=> ?_
  refine aS (n:=0+k1+k2) (c:=8) (b:=256) rfl (by decide) rfl (by rw[show(8:UInt64).toNat=8 from rfl,show(16:UInt64).toNat=16 from rfl,show(32:UInt64).toNat=32 from rfl]at*;rw[Zj (by omega) (by omega)];push_cast;rfl) fun y3 k3 g3 e3 p3 q3=> ?_
  rw[show(8:UInt64).toNat=8 from rfl]at g3 q3
  rw[show(16:UInt64).toNat=16 from rfl]at g2 q2
  rw[show(32:UInt64).toNat=32 from rfl]at g1 q1
  have b3:y3.toNat<2^8:=q3 (q2 (q1 (by simpa using ha)))
  have hy3:1≤y3.toNat:=p3 (p2 (p1 h))
  have hv:y3.toNat=a.toNat/2^(k1+k2+k3):=by rw[e3,e2,e1,Nat.div_div_eq_div_mul,Nat.div_div_eq_div_mul,←Nat.pow_add,←Nat.pow_add,Nat.add_assoc]
  obtain⟨t,ht,h1⟩:=xX ⟨y3.toNat,b3⟩
  dsimp only at ht h1
  obtain⟨h2,h3,h4,h5⟩:=h1 hy3
  have hu8:((Q7 (y3.toNat:Int)).toNat:Int)=(y3.toNat:Int):=by
   show((UInt8.ofNat ((y3.toNat:Int)%256).toNat).toNat:Int)=_
   rw[show((y3.toNat:Int)%256).toNat=y3.toNat by omega,UInt8.toNat_ofNat']
   omega
  dsimp only
  rw[hu8]
  show(Fo len8 (y3.toNat:Int)).bind _=r
  rw[BD,ht]
  simp only[Option.bind_some]
  rw[Bz (by omega),Zj (by omega) (by omega),show((0+k1+k2+k3:Nat):Int)+(t.toNat:Int)=((k1+k2+k3+t.toNat:Nat):Int) by omega]
  rw[hv]at h2 h3
  refine(hr _ (by omega) (by omega) ?_ ?_).symm
  ·rw[Nat.div_lt_iff_lt_mul (Nat.pow_pos (by decide)),←Nat.pow_add,Nat.add_comm]at h2
   exact h2
  ·rw[Nat.le_div_iff_mul_le (Nat.pow_pos (by decide)),←Nat.pow_add]at h3
   rw[show k1+k2+k3+t.toNat-1=t.toNat-1+(k1+k2+k3) by omega]
   exact h3
 have hex: ∃L:Nat,1≤L∧L≤64∧a.toNat<2^L∧2^(L-1)≤a.toNat:=by
  refine⟨a.toNat.log2+1,by omega,?_,Nat.lt_log2_self,Nat.log2_self_le (by omega)⟩
  have:=(Nat.log2_lt (by omega:a.toNat≠0) (k:=64)).2 (by simpa using ha)
  omega
 obtain⟨L,l1,l2,l3,l4⟩:=hex
 refine⟨L,key _ fun M m1 m2 m3 m4=> ?_,l1,l2,l3,l4⟩
 have hLM: ∀{A B:Nat},a.toNat<2^A→2^(B-1)≤a.toNat→B≤A:=fun{A B} x y=>by
  have:2^(B-1)<2^A:=Nat.lt_of_le_of_lt y x
  have:=(Nat.pow_lt_pow_iff_right (by decide:1<2)).1 this
  omega
 have:L=M:=Nat.le_antisymm (hLM m3 l4) (hLM l3 m4)
 rw[this]
theorem log_get: ∀L:Fin 65,∃p:UInt64,nF.l[L.1*78913/262144]? =some p∧p.toNat=10^(L.1*78913/262144)∧(1≤L.1→2^L.1≤10^(L.1*78913/262144+1)∧10^(L.1*78913/262144-1)≤2^(L.1-1))∧L.1*78913/262144≤19:=by
 have key: ∀L:Fin 65,(match nF.l[L.1*78913/262144]? with|some p=>decide (p.toNat=10^(L.1*78913/262144)∧(1≤L.1→2^L.1≤10^(L.1*78913/262144+1)∧10^(L.1*78913/262144-1)≤2^(L.1-1))∧L.1*78913/262144≤19)|none=>false)=true:=by decide+kernel
 intro L
 have:=key L
 split at this
 ·rename_i p e;exact⟨p,e,of_decide_eq_true this⟩
 ·cases this
theorem YF(a:UInt64)(h:100≤a.toNat): ∃N:Nat,D7 a=some ((N+1:Nat):Int)∧N<20∧10^N≤a.toNat∧a.toNat<10^(N+1):=by
 obtain⟨L,e1,l1,l2,l3,l4⟩:=sN a (by omega)
 obtain⟨p,e2,e3,e4,e5⟩:=log_get ⟨L,by omega⟩
 obtain⟨e4,e6⟩:=e4 l1
 dsimp only at e2 e3 e4 e5 e6
 have hl:D8 (L:Int)=some ((L*78913/262144:Nat):Int):=by
  unfold D8
  rw[if_neg (by decide),show((L:Int)*78913)=((L*78913:Nat):Int) by omega,Bz (by omega),show((2:Int)^(min ((18:UInt64).toNat:Int).toNat 64))=((262144:Nat):Int) by rfl,←Int.ofNat_fdiv]
  rfl
 generalize L*78913/262144=k at*
 unfold D7
 simp only[e1,hl,Option.bind_some,BD,e2,EP,e3]
 by_cases hp:10^k≤a.toNat
 ·rw[if_pos (decide_eq_true (Int.ofNat_le.2 hp))]
  refine⟨k,?_,by omega,hp,Nat.lt_of_lt_of_le l3 e4⟩
  simp only[Option.bind_some]
  rw[show((k:Nat):Int)+1=((k+1:Nat):Int) by omega,Bz (by omega)]
 ·rw[if_neg (by rw[decide_eq_true_eq];exact fun h=>hp (Int.ofNat_le.1 h))]
  have hpos:1≤k:=by
   rcases Nat.eq_zero_or_pos k with h0|h0
   ·rw[h0]at hp;simp at hp;omega
   ·exact h0
  refine⟨k-1,?_,by omega,Nat.le_trans e6 l4,?_⟩
  ·simp only[Option.bind_some]
   rw[show((k:Nat):Int)+0=((k-1+1:Nat):Int) by omega,Bz (by omega)]
  ·rw[show k-1+1=k by omega];omega
theorem zT{n m:Nat}(h:m≤n):((Tu n none (some (m:Int))).map fun p=>p.2)=some m:=by
 simp[Tu,h]
theorem qO{α β:Type}{x:Option α}{K:α→Option β}{r:Option β}(Q:α→Prop)(h: ∃b,x=some b∧Q b)(k: ∀b,Q b→K b=r):x.bind K=r:=by
 obtain⟨b,rfl,hb⟩:=h;exact k b hb
theorem eJ{α β:Type}{x:Option α}{K:α→Option β}{Q:β→Prop}(R:α→Prop)(h: ∃b,x=some b∧R b)(k: ∀b,R b→ ∃c,K b=some c∧Q c): ∃c,x.bind K=some c∧Q c:=by
 obtain⟨b,rfl,hb⟩:=h;exact k b hb
theorem dA{σ β γ:Type}{F:σ→Option (σ⊕β)}{K:β→Option γ}{Q':γ→Prop}{s:σ}(m:σ→Nat)(I:σ→Prop)(Q:β→Prop)(h:I s)
  (step: ∀s,I s→(∃s',F s=some (.inl s')∧I s'∧m s'<m s)∨ ∃b,F s=some (.inr b)∧Q b) (fin: ∀b,Q b→ ∃c,K b=some c∧Q' c): ∃c,(iter F s).bind K=some c∧Q' c:=
 eJ Q (Nr m I Q step h) fin
theorem VP.end{N a u:Nat}{A:Ar UInt8 24}(h:VP N a 0 u A):A.l.take N=vW N a:=by
 have:=h.2.2
 simp[vW]at this
 exact this.symm
theorem vT{i u:Nat}(h:u<10^i)(hi:i<9):u<4294967296:=Nat.lt_trans h (Nat.lt_of_le_of_lt (Nat.pow_le_pow_right (by decide) (show i≤8 by omega)) (by decide))
set_option maxHeartbeats 4000000 in
set_option maxRecDepth 20000 in
theorem nG(a:UInt64)(h:100≤a.toNat):Ce a 10=some (Dw a.toNat):=by
 have halt:=a.toNat_lt
 obtain⟨M,e1,hM,l1,l2⟩:=YF a h
 have hM1:1≤M:=by
  rcases Nat.eq_zero_or_pos M with h0|h0
  ·subst h0;simp at l2;omega
  ·exact h0
 have hdig:Dw a.toNat=vW (M+1) a.toNat:=kQ M 20 a.toNat (by omega) l2 (.inr l1)
 generalize hN:M+1=N at*
 unfold Ce
 rw[if_pos (by decide)]
 dsimp only
 rw[if_neg (by rw[decide_eq_true_eq,show((100:UInt64).toNat:Int)=100 from rfl];omega),e1,Option.bind_some,zT (by omega),Option.bind_some]
 have e100:(100:UInt32).toNat=100:=rfl
 have e10k:(10000:UInt32).toNat=10000:=rfl
 have e100m:(100000000:UInt64).toNat=100000000:=rfl
 refine qO (fun A:Ar UInt8 24=>A.l.take N=vW N a.toNat) ?_ fun A hA=>by
  rw[Option.bind_some]
  simp only[yT]
  rw[if_pos (by omega)]
  simp only[Option.bind_some,List.drop_zero,EY,hA,hdig]
 refine dA (fun s=>s.2.1.toNat) (fun s:UInt64×Int×Ar UInt8 24=> ∃i:Nat,s.2.1=i∧VP N a.toNat i s.1.toNat s.2.2)
  (fun r=> ∃(i:Nat) (u:UInt64) (A:Ar UInt8 24),r= .inl (u,(i:Int),A)∧i<8∧VP N a.toNat i u.toNat A) ⟨N,rfl,Nat.le_refl _,l2,by
   rw[List.drop_of_length_le (by rw[List.length_take];omega),List.append_nil]⟩ ?_ ?_
 ·rintro⟨u,s,A⟩ ⟨i,rfl,hd⟩
  dsimp only at hd ⊢
  have hiN:=hd.1
  by_cases hi:8≤i
  ·left
   rw[if_pos (by rw[decide_eq_true_eq];omega)]
   obtain⟨x13,f13,v13⟩:=mod64 u 100000000 (by decide)
   obtain⟨x15,f15,v15⟩:=div64 u 100000000 (by decide)
   rw[f13,f15,Option.bind_some,Option.bind_some]
   rw[e100m]at v13 v15
   have b13:x13.toNat<4294967296:=by omega
   have w13:=N9 b13
   obtain⟨x16,f16,v16⟩:=ZS (C8 (x13.toNat:Int)) 10000 (by decide)
   obtain⟨x17,f17,v17⟩:=ZB (C8 (x13.toNat:Int)) 10000 (by decide)
   rw[f16,f17,Option.bind_some,Option.bind_some]
   rw[w13,e10k,v13]at v16 v17
   obtain⟨x18,f18,v18⟩:=ZS x17 100 (by decide)
   obtain⟨x20,f20,v20⟩:=ZB x17 100 (by decide)
   obtain⟨x22,f22,v22⟩:=ZS x16 100 (by decide)
   obtain⟨x24,f24,v24⟩:=ZB x16 100 (by decide)
   rw[f18,f20,f22,f24,Option.bind_some,Option.bind_some,Option.bind_some,Option.bind_some]
   rw[e100,v17]at v18 v20
   rw[e100,v16]at v22 v24
   refine⟨(x15,((i-8:Nat):Int),YE (YE (YE (YE A (i-2) (u.toNat%100)) (i-4) (u.toNat/100%100)) (i-6) (u.toNat/100/100%100)) (i-8) (u.toNat/100/100/100%100)),?_,⟨i-8,rfl,?_⟩,by dsimp only;omega⟩
   ·refine(NM (N:=N) (i:=i) (o:=i-2) (k:=u.toNat%100) (by omega) hiN (by rw[XD _ (by omega)];omega) (by omega) (by omega) (by omega) (by omega)).trans ?_
    refine(NM (N:=N) (i:=i) (o:=i-4) (k:=u.toNat/100%100) (by omega) hiN (by rw[XD _ (by omega)];omega) (by omega) (by omega) (by omega) (by omega)).trans ?_
    refine(NM (N:=N) (i:=i) (o:=i-6) (k:=u.toNat/100/100%100) (by omega) hiN (by rw[XD _ (by omega)];omega) (by omega) (by omega) (by omega) (by omega)).trans ?_
    refine(NM (N:=N) (i:=i) (o:=i-8) (k:=u.toNat/100/100/100%100) (by omega) hiN (by rw[XD _ (by omega)];omega) (by omega) (by omega) (by omega) (by omega)).trans ?_
    rw[show((i:Nat):Int)-8=((i-8:Nat):Int) by omega,Bz (by omega)]
   ·rw[show x15.toNat=u.toNat/100/100/100/100 by omega]
    exact(((hd.two (by omega) (by omega) rfl).two (i:=i-2) (o:=i-4) (by omega) (by omega) rfl).two (i:=i-4) (o:=i-6) (by omega) (by omega) rfl).two (i:=i-6) (o:=i-8) (by omega) (by omega) rfl
  ·right
   rw[if_neg (by rw[decide_eq_true_eq];omega)]
   exact⟨_,rfl,i,u,A,rfl,by omega,hd⟩
 ·rintro _ ⟨i,u,A,rfl,hi,hd⟩
  have hiN:=hd.1
  have hu32:=vT hd.2.1 (by omega)
  have wu:=N9 hu32
  refine eJ (fun r=> ∃(i:Nat) (w:UInt32) (A:Ar UInt8 24),r= .inl ((i:Int),w,A)∧i<4∧VP N a.toNat i w.toNat A) ?_ ?_
  ·dsimp only
   by_cases h4:4≤i
   ·rw[if_pos (by rw[decide_eq_true_eq];omega)]
    obtain⟨x88,f88,v88⟩:=ZB (C8 (u.toNat:Int)) 10000 (by decide)
    obtain⟨x89,f89,v89⟩:=ZS (C8 (u.toNat:Int)) 10000 (by decide)
    rw[f88,f89,Option.bind_some,Option.bind_some]
    rw[wu,e10k]at v88 v89
    obtain⟨x90,f90,v90⟩:=ZS x88 100 (by decide)
    obtain⟨x92,f92,v92⟩:=ZB x88 100 (by decide)
    rw[f90,f92,Option.bind_some,Option.bind_some]
    rw[e100,v88]at v90 v92
    refine⟨.inl (((i-4:Nat):Int),x89,YE (YE A (i-2) (u.toNat%100)) (i-4) (u.toNat/100%100)),?_,i-4,_,_,rfl,by omega,?_⟩
    ·refine(NM (N:=N) (i:=i) (o:=i-2) (k:=u.toNat%100) (by omega) hiN (by rw[XD _ (by omega)];omega) (by omega) (by omega) (by omega) (by omega)).trans ?_
     refine(NM (N:=N) (i:=i) (o:=i-4) (k:=u.toNat/100%100) (by omega) hiN (by rw[XD _ (by omega)];omega) (by omega) (by omega) (by omega) (by omega)).trans ?_
     rw[show((i:Nat):Int)-4=((i-4:Nat):Int) by omega,Bz (by omega)]
    ·rw[show x89.toNat=u.toNat/100/100 by omega]
     exact(hd.two (by omega) (by omega) rfl).two (i:=i-2) (o:=i-4) (by omega) (by omega) rfl
   ·rw[if_neg (by rw[decide_eq_true_eq];omega)]
    exact⟨_,rfl,i,_,A,rfl,by omega,by rw[wu];exact hd⟩
  ·rintro _ ⟨i,w,A,rfl,hi,hd⟩
   have hiN:=hd.1
   refine eJ (fun r=> ∃(i:Nat) (w:UInt32) (A:Ar UInt8 24),r= .inl ((i:Int),w,A)∧i<2∧VP N a.toNat i w.toNat A) ?_ ?_
   ·dsimp only
    by_cases h2:2≤i
    ·rw[if_pos (by rw[decide_eq_true_eq];omega)]
     obtain⟨x75,f75,v75⟩:=ZB w 100 (by decide)
     obtain⟨x77,f77,v77⟩:=ZS w 100 (by decide)
     rw[f75,f77,Option.bind_some,Option.bind_some]
     rw[e100]at v75 v77
     refine⟨.inl (((i-2:Nat):Int),x77,YE A (i-2) (w.toNat%100)),?_,i-2,_,_,rfl,by omega,?_⟩
     ·refine(NM (N:=N) (i:=i) (o:=i-2) (k:=w.toNat%100) (by omega) hiN (by rw[XD _ (by omega)];omega) (by omega) (by omega) (by omega) (by omega)).trans ?_
      rw[show((i:Nat):Int)-2=((i-2:Nat):Int) by omega,Bz (by omega)]
     ·rw[v77]
      exact hd.two (by omega) (by omega) rfl
    ·rw[if_neg (by rw[decide_eq_true_eq];omega)]
     exact⟨_,rfl,i,_,A,rfl,by omega,hd⟩
   ·rintro _ ⟨i,w,A,rfl,hi,hd⟩
    have hiN:=hd.1
    dsimp only[Sum.elim_inl]
    by_cases h1:0<i
    ·have hi1:i=1:=by omega
     subst hi1
     have hw:w.toNat<10:=by simpa using hd.2.1
     rw[if_pos (by rw[decide_eq_true_eq];omega),if_pos (by omega),show(0:Int)=((0:Nat):Int)from rfl,Cl (by omega),Option.bind_some,if_pos (by omega),Option.bind_some]
     refine⟨_,rfl,?_⟩
     have hb:Q7 ((C8 (((48:UInt32).toNat:Int)+(w.toNat:Int))).toNat:Int)=UInt8.ofNat (48+w.toNat):=by
      rw[show(((48:UInt32).toNat:Int)+(w.toNat:Int))=((48+w.toNat:Nat):Int) by rw[show((48:UInt32).toNat:Int)=48 from rfl];omega,N9 (by omega)]
      exact u8_of (by omega)
     rw[hb]
     exact(hd.one (by omega) rfl).end
    ·obtain rfl:i=0:=by omega
     rw[if_neg (by rw[decide_eq_true_eq];omega)]
     exact⟨_,rfl,hd.end⟩
theorem rF: ∀n:Fin 100,Gu (n.1:Int)=some (Dw n.1):=by decide+kernel
theorem Jo(a:UInt64):DB a=some (Dw a.toNat):=by
 have:Ce a 10=some (Dw a.toNat):=by
  by_cases h:100≤a.toNat
  ·exact nG a h
  ·unfold Ce
   rw[if_pos (by decide)]
   dsimp only
   rw[if_pos (by rw[decide_eq_true_eq,show((100:UInt64).toNat:Int)=100 from rfl];omega),Bz (by omega),rF ⟨a.toNat,by omega⟩]
   rfl
 unfold DB I1
 rw[this];rfl
end Go.Proofs.YtobejhpigbllpaaGreatDoor.Am
namespace Go.Proofs.YtobejhpigbllpaaGreatDoor.Am
def Ey(sep:AM):List AM→AM
 |[]=>[]
 |[x]=>x
 |x::y::r=>x++sep++Ey sep (y::r)
theorem NY(sep:AM): ∀(l:List AM) (x:AM),l≠[]→Ey sep (l++[x])=Ey sep l++sep++x
 |[],_,h=>absurd rfl h
 |[y],x,_=>rfl
 |y::z::r,x,_=>by
  have:=NY sep (z::r) x (by simp)
  simp only[List.cons_append,Ey]at this ⊢
  rw[this];simp
def Rf(l:List AM):Nat:=(l.map List.length).sum
theorem Zp{l:List AM}{i:Nat}(h:i<l.length):Rf (l.take (i+1))=Rf (l.take i)+l[i].length:=by
 unfold Rf;rw[List.take_succ_eq_append_getElem h,List.map_append,List.sum_append,List.map_singleton,List.sum_singleton]
theorem L0(sep:AM): ∀l:List AM,(Ey sep l).length=sep.length*(l.length-1)+Rf l
 |[]=>by simp[Ey,Rf]
 |[x]=>by simp[Ey,Rf]
 |x::y::r=>by
  have:=L0 sep (y::r)
  simp only[Ey,List.length_append,this,Rf,List.map_cons,List.sum_cons,List.length_cons,Nat.add_sub_cancel,Nat.mul_add,Nat.mul_one]
  omega
theorem Tw(l:List AM)(i:Nat):Rf (l.take i)≤Rf l:=by
 conv=>rhs;rw[←List.take_append_drop i l]
 unfold Rf;rw[List.map_append,List.sum_append];omega
theorem Xk(sep:AM)(l:List AM)(i:Nat):(Ey sep (l.take i)).length≤(Ey sep l).length:=by
 rw[L0,L0]
 have h1:=Tw l i
 have h2:sep.length*((l.take i).length-1)≤sep.length*(l.length-1):=Nat.mul_le_mul_left _ (by rw[List.length_take];omega)
 omega
theorem iT(g:GS AM)(sep:AM)(hl:g.l.length<1000000)(hs:sep.length<1000)(h:(Ey sep g.l).length<1000000000):Jc g sep=some (Ey sep g.l):=by
 unfold Jc
 have hjl:=L0 sep g.l
 by_cases h0:g.l.length=0
 ·rw[if_pos (by rw[decide_eq_true_eq,h0];rfl),List.eq_nil_of_length_eq_zero h0];rfl
 rw[if_neg (by rw[decide_eq_true_eq];omega)]
 by_cases h1:g.l.length=1
 ·rw[if_pos (by rw[decide_eq_true_eq,h1];rfl)]
  obtain⟨x,hx⟩:=List.length_eq_one_iff.1 h1
  rw[hx];rfl
 rw[if_neg (by rw[decide_eq_true_eq];omega)]
 have hw:IntKind.i64.wrap ((g.l.length:Int)-1)=((g.l.length-1:Nat):Int):=by
  rw[show(g.l.length:Int)-1=((g.l.length-1:Nat):Int) by omega,Bz (by omega)]
 have hprod:sep.length*(g.l.length-1)<1000000000:=by omega
 refine qO (fun r=>r= .inl ((sep.length*(g.l.length-1):Nat):Int)) ?_ ?_
 ·by_cases hs0:0<sep.length
  ·rw[if_pos (by rw[decide_eq_true_eq];omega)]
   simp only[hw]
   rw[if_neg (by omega)]
   have hq:IntKind.i64.wrap (Int.tdiv 9223372036854775807 ((g.l.length-1:Nat):Int))=((9223372036854775807/(g.l.length-1):Nat):Int):=by
    rw[show(9223372036854775807:Int)=((9223372036854775807:Nat):Int)from rfl,←Int.ofNat_tdiv,Bz (Nat.lt_of_le_of_lt (Nat.div_le_self _ _) (by decide))]
   rw[hq,Option.bind_some,if_neg (by
    rw[decide_eq_true_eq,Int.ofNat_le]
    have:1000000≤9223372036854775807/(g.l.length-1):=(Nat.le_div_iff_mul_le (by omega)).2 (by omega)
    omega)]
   have e1:IntKind.i64.wrap ((sep.length:Int)*((g.l.length-1:Nat):Int))=((sep.length*(g.l.length-1):Nat):Int):=by
    rw[←Int.natCast_mul,Bz (by omega)]
   rw[e1,Int.zero_add,Bz (by omega)]
   exact⟨_,rfl,rfl⟩
  ·rw[if_neg (by rw[decide_eq_true_eq];omega)]
   have:sep.length=0:=by omega
   exact⟨_,rfl,by rw[this,Nat.zero_mul];rfl⟩
 ·rintro _ rfl
  dsimp only[Sum.elim_inl]
  refine Cd (fun s=>g.l.length-s.2.toNat) (fun s=> ∃i:Nat,s.2=i∧i≤g.l.length∧s.1=((sep.length*(g.l.length-1)+Rf (g.l.take i):Nat):Int)) (fun r=>r= .inl ((Ey sep g.l).length:Int)) ⟨0,rfl,by omega,by simp[Rf]⟩ ?_ ?_
  ·rintro⟨n,s⟩ ⟨i,rfl,hi,rfl⟩
   dsimp only
   have hm:=Tw g.l i
   by_cases hlt:i<g.l.length
   ·left
    have hm1:=Tw g.l (i+1)
    rw[Zp hlt]at hm1
    rw[if_pos (by rw[decide_eq_true_eq];omega),BD,List.getElem?_eq_getElem hlt,Option.bind_some]
    rw[if_neg (by rw[decide_eq_true_eq,Zj (by omega) (by omega)];omega)]
    refine⟨_,rfl,⟨i+1,?_,by omega,?_⟩,?_⟩
    ·dsimp only;rw[show(i:Int)+1=((i+1:Nat):Int) by omega,Bz (by omega)]
    ·dsimp only
     rw[Zp hlt,←Int.natCast_add,Bz (by omega),Nat.add_assoc]
    ·dsimp only;rw[show(i:Int)+1=((i+1:Nat):Int) by omega,Bz (by omega)];omega
   ·right
    rw[if_neg (by rw[decide_eq_true_eq];omega)]
    exact⟨_,rfl,by rw[List.take_of_length_le (by omega),hjl]⟩
  ·rintro _ rfl
   dsimp only[Sum.elim_inl]
   have hg1:iZ [] ((Ey sep g.l).length:Int)=some []:=by
    unfold iZ;rw[if_pos ⟨rfl,by omega,by unfold Be;omega⟩]
   cases hgl:g with
   |nil=>rw[hgl]at h0;simp at h0
   |mk l=>
    subst hgl
    simp only[EY]at*
    cases l with
    |nil=>simp at h0
    |cons x r=>
     have hx:x.length≤(Ey sep (x::r)).length:=by
      have:=Xk sep (x::r) 1
      simpa [Ey]using this
     rw[hg1,Option.bind_some,show(0:Int)=((0:Nat):Int)from rfl,BD]
     simp only[List.getElem?_cons_zero,Option.bind_some]
     have hb:LS [] x=some x:=by unfold LS;rw[if_pos (by simp;unfold Be;omega)];rfl
     obtain⟨g2,hsl,hg2⟩: ∃g2:GS AM,slG (.mk (x::r)) (some 1) none=some g2∧g2.l=r:=⟨.mk r,uT (n:=1) (by simp),rfl⟩
     subst hg2
     rw[hb,Option.bind_some,hsl,Option.bind_some]
     refine Cd (fun s=>g2.l.length-s.1.toNat) (fun s=> ∃i:Nat,s.1=i∧i≤g2.l.length∧s.2=Ey sep ((x::g2.l).take (i+1))) (fun b=>b= .inl (Ey sep (x::g2.l))) ⟨0,rfl,by omega,rfl⟩ ?_ ?_
     ·rintro⟨s,t⟩ ⟨i,rfl,hi,rfl⟩
      dsimp only
      by_cases hlt:i<g2.l.length
      ·left
       have hj2:=Xk sep (x::g2.l) (i+1+1)
       have hsn:Ey sep ((x::g2.l).take (i+1+1))=Ey sep ((x::g2.l).take (i+1))++sep++g2.l[i]:=by
        rw[List.take_succ_eq_append_getElem (show i+1<(x::g2.l).length by simpa using hlt),NY sep _ _ (by simp)]
        rfl
       have hj3:=hj2
       rw[hsn,List.length_append,List.length_append]at hj3
       rw[if_pos (by rw[decide_eq_true_eq];omega),BD,List.getElem?_eq_getElem hlt,Option.bind_some]
       have b1:LS (Ey sep ((x::g2.l).take (i+1))) sep=some (Ey sep ((x::g2.l).take (i+1))++sep):=by unfold LS;rw[if_pos (by unfold Be;omega)]
       have b2:LS (Ey sep ((x::g2.l).take (i+1))++sep) g2.l[i]=some (Ey sep ((x::g2.l).take (i+1))++sep++g2.l[i]):=by unfold LS;rw[if_pos (by rw[List.length_append];unfold Be;omega)]
       rw[b1,Option.bind_some,b2,Option.bind_some]
       refine⟨_,rfl,⟨i+1,?_,by omega,hsn.symm⟩,?_⟩
       ·dsimp only;rw[show(i:Int)+1=((i+1:Nat):Int) by omega,Bz (by simp at hl;omega)]
       ·dsimp only;rw[show(i:Int)+1=((i+1:Nat):Int) by omega,Bz (by simp at hl;omega)];omega
      ·right
       rw[if_neg (by rw[decide_eq_true_eq];omega)]
       exact⟨_,rfl,by rw[List.take_of_length_le (by simp;omega)]⟩
     ·rintro _ rfl
      dsimp only[Sum.elim_inl]
      have hT:eI (decide (0<((Ey sep (x::g2.l)).length:Int))) (Ey sep (x::g2.l))=some (Ey sep (x::g2.l)):=by
       unfold eI
       refine if_pos ⟨by unfold Be;omega,fun hp h0=> ?_⟩
       rw[decide_eq_true_eq,h0]at hp
       simp at hp
      exact congrArg (fun x:Option AM=>x.bind fun y=>some y) hT
def hd(k:Nat):UInt8:=if k<10 then UInt8.ofNat (48+k)else UInt8.ofNat (87+k)
def hexB(b:UInt8):AM:=[hd (b.toNat/16),hd (b.toNat%16)]
def JN(l:List UInt8):AM:=l.flatMap hexB
theorem SB(l:List UInt8):(JN l).length=2*l.length:=by
 induction l with
 |nil=>rfl
 |cons b l ih=>simp only[JN,List.flatMap_cons,List.length_append,List.length_cons]at ih ⊢;rw[ih];simp[hexB];omega
theorem ZG{l:List UInt8}{i:Nat}(h:i<l.length):JN (l.take (i+1))=JN (l.take i)++[hd (l[i].toNat/16)]++[hd (l[i].toNat%16)]:=by
 rw[List.take_succ_eq_append_getElem h];simp only[JN,List.flatMap_append,List.flatMap_cons,List.flatMap_nil,hexB,List.append_nil,List.append_assoc];rfl
def hdigs:AM:=[48,49,50,51,52,53,54,55,56,57,97,98,99,100,101,102]
theorem Ua: ∀k:Fin 16,hdigs[k.1]? =some (hd k.1):=by decide+kernel
theorem hi_val: ∀b:Fin 256,(if((4:UInt64).toNat:Int)<0 then none else some (Q7 (Int.fdiv ((UInt8.ofNat b.1).toNat:Int) (2^(min ((4:UInt64).toNat:Int).toNat 8)))))=some (UInt8.ofNat (b.1/16)):=by decide+kernel
theorem lo_val: ∀b:Fin 256,Q7 (JA .and .u8 ((UInt8.ofNat b.1).toNat:Int) ((15:UInt8).toNat:Int))=UInt8.ofNat (b.1%16):=by decide+kernel
theorem nat8{k:Nat}(h:k<256):(UInt8.ofNat k).toNat=k:=by rw[UInt8.toNat_ofNat'];omega
theorem dD(g:GS UInt8)(h:g.l.length<1000000):Hz g=some (JN g.l):=by
 unfold Hz
 refine Cd (fun s=>g.l.length-s.1.toNat) (fun s=> ∃i:Nat,s.1=i∧i≤g.l.length∧s.2=JN (g.l.take i)) (fun b=>b= .inl (JN g.l)) ⟨0,rfl,by omega,rfl⟩ ?_ ?_
 ·rintro⟨s,t⟩ ⟨i,rfl,hi,rfl⟩
  dsimp only
  have hlen:=SB (g.l.take i)
  rw[List.length_take]at hlen
  by_cases hlt:i<g.l.length
  ·left
   rw[if_pos (by rw[decide_eq_true_eq];omega),BD,List.getElem?_eq_getElem hlt,Option.bind_some]
   have hb:=g.l[i].toNat_lt
   have e1:=hi_val ⟨g.l[i].toNat,hb⟩
   have e2:=lo_val ⟨g.l[i].toNat,hb⟩
   simp only[P3]at e1 e2
   rw[e1,Option.bind_some]
   rw[e2,nat8 (by omega),nat8 (by omega),BD,BD]
   have d1:=Ua ⟨g.l[i].toNat/16,by omega⟩
   have d2:=Ua ⟨g.l[i].toNat%16,by omega⟩
   have b1:LS (JN (g.l.take i)) [hd (g.l[i].toNat/16)]=some (JN (g.l.take i)++[hd (g.l[i].toNat/16)]):=by unfold LS;rw[if_pos (by simp;unfold Be;omega)]
   have b2:LS (JN (g.l.take i)++[hd (g.l[i].toNat/16)]) [hd (g.l[i].toNat%16)]=some (JN (g.l.take i)++[hd (g.l[i].toNat/16)]++[hd (g.l[i].toNat%16)]):=by unfold LS;rw[if_pos (by simp;unfold Be;omega)]
   refine⟨(((i+1:Nat):Int),JN (g.l.take (i+1))),?_,⟨i+1,rfl,by omega,rfl⟩,by dsimp only;omega⟩
   refine(congrArg (fun x:Option UInt8=>x.bind _) d1).trans ?_
   rw[Option.bind_some,b1,Option.bind_some]
   refine(congrArg (fun x:Option UInt8=>x.bind _) d2).trans ?_
   rw[Option.bind_some,b2,Option.bind_some,ZG hlt,show(i:Int)+1=((i+1:Nat):Int) by omega,Bz (by omega)]
  ·right
   rw[if_neg (by rw[decide_eq_true_eq];omega)]
   exact⟨_,rfl,by rw[List.take_of_length_le (by omega)]⟩
 ·rintro _ rfl
  dsimp only[Sum.elim_inl]
  unfold eI
  rw[if_pos ⟨by rw[SB];unfold Be;omega,fun h=>by cases h⟩]
  rfl
theorem yB(K:Ar UInt8 32):Nn K=some (JN K.l):=by
 unfold Nn
 rw[if_pos (by decide),List.drop_zero,List.take_of_length_le (by rw[K.len];exact Nat.le_refl _),dD _ (by simp[K.len])]
 rfl
theorem Ka: ∀k:Fin 16,Lw (k.1:Int)=some [hd k.1]:=by decide+kernel
theorem lT(g:GS UInt8)(h:g.l.length<1000000):LC g=some (JN g.l):=by
 unfold LC
 refine Cd (fun s=>g.l.length-s.2.toNat) (fun s=> ∃i:Nat,s.2=i∧i≤g.l.length∧s.1=JN (g.l.take i)) (fun b=>b= .inl (JN g.l)) ⟨0,rfl,by omega,rfl⟩ ?_ ?_
 ·rintro⟨t,s⟩ ⟨i,rfl,hi,rfl⟩
  dsimp only
  have hlen:=SB (g.l.take i)
  rw[List.length_take]at hlen
  by_cases hlt:i<g.l.length
  ·left
   have hb:=g.l[i].toNat_lt
   have q1:IntKind.i64.wrap (Int.tdiv (g.l[i].toNat:Int) 16)=((g.l[i].toNat/16:Nat):Int):=by
    rw[show(16:Int)=((16:Nat):Int)from rfl,←Int.ofNat_tdiv,Bz (by omega)]
   have q2:Int.tmod (g.l[i].toNat:Int) 16=((g.l[i].toNat%16:Nat):Int):=by
    rw[show(16:Int)=((16:Nat):Int)from rfl,←Int.ofNat_tmod]
   have d1:=Ka ⟨g.l[i].toNat/16,by omega⟩
   have d2:=Ka ⟨g.l[i].toNat%16,by omega⟩
   dsimp only at d1 d2
   rw[if_pos (by rw[decide_eq_true_eq];omega),BD,List.getElem?_eq_getElem hlt,Option.bind_some,Bz (by omega),if_neg (by decide),Option.bind_some,q1,d1,Option.bind_some,if_pos (by simp;unfold Be;omega),Option.bind_some,Option.bind_some,Bz (by omega),if_neg (by decide),Option.bind_some,q2,d2,Option.bind_some,if_pos (by simp;unfold Be;omega),Option.bind_some]
   refine⟨_,rfl,⟨i+1,?_,by omega,(ZG hlt).symm⟩,?_⟩
   ·dsimp only;rw[show(i:Int)+1=((i+1:Nat):Int) by omega,Bz (by omega)]
   ·dsimp only;rw[show(i:Int)+1=((i+1:Nat):Int) by omega,Bz (by omega)];omega
  ·right
   rw[if_neg (by rw[decide_eq_true_eq];omega)]
   exact⟨_,rfl,by rw[List.take_of_length_le (by omega)]⟩
 ·rintro _ rfl;rfl
theorem rQ(K:Ar UInt8 32):Nh K=some (.mk K.l):=by
 unfold Nh
 have hK:=K.len
 refine Cd (fun s=>32-s.1.toNat) (fun s=> ∃i:Nat,s.1=i∧i≤32∧s.2=ZJ (K.l.take i)) (fun b=>b= .inl (.mk K.l)) ⟨0,rfl,by omega,rfl⟩ ?_ ?_
 ·rintro⟨s,t⟩ ⟨i,rfl,hi,rfl⟩
  dsimp only
  by_cases hlt:i<32
  ·left
   have hl:i<K.l.length:=by omega
   rw[if_pos (by rw[decide_eq_true_eq];omega),Cl hlt,Option.bind_some,List.getElem?_eq_getElem hl,Option.bind_some,Kn (by rw[QX,List.length_take];unfold Be;omega),Option.bind_some]
   refine⟨_,rfl,⟨i+1,?_,by omega,?_⟩,?_⟩
   ·dsimp only;rw[show(i:Int)+1=((i+1:Nat):Int) by omega,Bz (by omega)]
   ·dsimp only;rw[QX,List.take_succ_eq_append_getElem hl,PD]
   ·dsimp only;rw[show(i:Int)+1=((i+1:Nat):Int) by omega,Bz (by omega)];omega
  ·right
   rw[if_neg (by rw[decide_eq_true_eq];omega)]
   refine⟨_,rfl,?_⟩
   rw[List.take_of_length_le (by omega)]
   cases hKl:K.l with
   |nil=>rw[hKl]at hK;simp at hK
   |cons x l=>rfl
 ·rintro _ rfl;rfl
end Go.Proofs.YtobejhpigbllpaaGreatDoor.Am
namespace Go.Proofs.YtobejhpigbllpaaGreatDoor.Am
def QQ(l:List UInt8):AM:=Ey [46] (l.map fun b=>Dw b.toNat)
theorem Wn{l:List AM}{n:Nat}(h: ∀x∈l,x.length≤n):Rf l≤l.length*n:=by
 induction l with
 |nil=>simp[Rf]
 |cons x l ih=>
  have h1:=h x (by simp)
  have h2:=ih fun y hy=>h y (by simp[hy])
  simp only[Rf,List.map_cons,List.sum_cons,List.length_cons,Nat.add_mul,Nat.one_mul]at h2 ⊢
  omega
theorem TI(l:List UInt8):(QQ l).length≤21*l.length:=by
 unfold QQ
 rw[L0]
 have:=Wn (l:=l.map fun b=>Dw b.toNat) (n:=20) (fun x hx=>by obtain⟨b,_,rfl⟩:=List.mem_map.1 hx;exact Hl _)
 simp at this ⊢
 omega
theorem dec8(b:UInt8):DB (BQ (b.toNat:Int))=some (Dw b.toNat):=by
 rw[Jo,JY (by have:=b.toNat_lt;omega)]
theorem r03_8(b:UInt8):FN (BQ (b.toNat:Int))=some (Dw b.toNat):=by
 rw[Su,JY (by have:=b.toNat_lt;omega)]
theorem bX{α:Type}{l d:List α}{x:α}{i:Nat}(h:i<l.length)(hd:l.take i=d):(l.set i x).take (i+1)=d++[x]:=by
 rw[List.take_succ_eq_append_getElem (by rw[List.length_set];exact h),List.getElem_set_self,List.take_set_of_le (Nat.le_refl _),hd]
theorem rS(B:Ar UInt8 4):Qe B=some (QQ B.l):=by
 have hB:=B.len
 unfold Qe
 refine Cd (fun s=>4-s.1.toNat) (fun s=> ∃i:Nat,s.1=i∧i≤4∧s.2.l.take i=(B.l.take i).map fun b=>Dw b.toNat) (fun r=> ∃A:Ar AM 4,r= .inl A∧A.l=B.l.map fun b=>Dw b.toNat) ⟨0,rfl,by omega,rfl⟩ ?_ ?_
 ·rintro⟨s,A⟩ ⟨i,rfl,hi,hA⟩
  dsimp only at hA ⊢
  by_cases hlt:i<4
  ·left
   rw[if_pos (by rw[decide_eq_true_eq];omega),BD,List.getElem?_eq_getElem (show i<B.l.length by omega),Option.bind_some,dec8,Option.bind_some,Cl hlt,Option.bind_some,if_pos hlt,Option.bind_some]
   refine⟨_,rfl,⟨i+1,?_,by omega,?_⟩,?_⟩
   ·dsimp only;rw[show(i:Int)+1=((i+1:Nat):Int) by omega,Bz (by omega)]
   ·dsimp only
    rw[List.take_succ_eq_append_getElem (show i<B.l.length by omega),List.map_append]
    exact bX (by rw[A.len];exact hlt) hA
   ·dsimp only;rw[show(i:Int)+1=((i+1:Nat):Int) by omega,Bz (by omega)];omega
  ·right
   rw[if_neg (by rw[decide_eq_true_eq];omega)]
   refine⟨_,rfl,A,rfl,?_⟩
   rw[List.take_of_length_le (by rw[A.len];omega),List.take_of_length_le (by omega)]at hA
   exact hA
 ·rintro _ ⟨A,rfl,hA⟩
  dsimp only[Sum.elim_inl]
  have hl:=TI B.l
  have hlt:(QQ B.l).length<1000000000:=by omega
  have hj:=iT (.mk A.l) [46] (by simp[A.len]) (by decide) (by show(Ey [46] A.l).length<1000000000;rw[hA];exact hlt)
  rw[if_pos (by decide),List.drop_zero,List.take_of_length_le (by rw[A.len];exact Nat.le_refl _),hj,EY,hA]
  rfl
theorem vS(B:Ar UInt8 4):Sr B=some (QQ B.l):=by
 have hB:=B.len
 unfold Sr
 have h0:0<B.l.length:=by omega
 rw[show(0:Int)=((0:Nat):Int)from rfl,Cl (by decide),Option.bind_some,List.getElem?_eq_getElem h0,Option.bind_some,r03_8,Option.bind_some]
 refine Cd (fun s=>4-s.2.toNat) (fun s=> ∃i:Nat,s.2=((i+1:Nat):Int)∧i+1≤4∧s.1=QQ (B.l.take (i+1))) (fun r=>r= .inl (QQ B.l)) ⟨0,rfl,by omega,by
  rw[List.take_succ_eq_append_getElem h0];rfl⟩ ?_ ?_
 ·rintro⟨t,s⟩ ⟨i,rfl,hi,rfl⟩
  dsimp only
  have hl:=TI (B.l.take (i+1))
  rw[List.length_take]at hl
  by_cases hlt:i+1<4
  ·left
   have hd:=Hl (B.l[i+1]'(by omega)).toNat
   rw[if_pos (by rw[decide_eq_true_eq];omega),if_pos (by simp;unfold Be;omega),Option.bind_some,Cl hlt,Option.bind_some,List.getElem?_eq_getElem (show i+1<B.l.length by omega),Option.bind_some,r03_8,Option.bind_some,if_pos (by simp;unfold Be;omega),Option.bind_some]
   refine⟨_,rfl,⟨i+1,?_,by omega,?_⟩,?_⟩
   ·dsimp only;rw[show((i+1:Nat):Int)+1=((i+1+1:Nat):Int) by omega,Bz (by omega)]
   ·dsimp only
    unfold QQ
    rw[List.take_succ_eq_append_getElem (show i+1<B.l.length by omega),List.map_append,List.map_singleton,NY _ _ _ (by simp;intro h;rw[h]at hB;simp at hB)]
   ·dsimp only;rw[show((i+1:Nat):Int)+1=((i+1+1:Nat):Int) by omega,Bz (by omega)];omega
  ·right
   rw[if_neg (by rw[decide_eq_true_eq];omega)]
   exact⟨_,rfl,by rw[List.take_of_length_le (by omega)]⟩
 ·rintro _ rfl;rfl
def SE:Nat→Nat→AM
 |0,_=>[]
 |k+1,n=>if n<16 then [hd n]else SE k (n/16)++[hd (n%16)]
def ON(n:Nat):AM:=SE 5 n
theorem ZH: ∀(k n:Nat),n<16^(k+1)→SE (k+2) n=SE (k+1) n
 |0,n,h=>by
  have h:n<16:=by simpa using h
  simp[SE,h]
 |k+1,n,h=>by
  by_cases hn:n<16
  ·simp[SE,hn]
  ·have hd:n/16<16^(k+1):=by
    rw[Nat.div_lt_iff_lt_mul (by decide),←Nat.pow_succ];exact h
   have ih:=ZH k (n/16) hd
   rw[SE,if_neg hn,ih]
   conv=>rhs;rw[SE,if_neg hn]
theorem dH{n:Nat}(h:n<65536):ON n=if n<16 then [hd n]else ON (n/16)++[hd (n%16)]:=by
 unfold ON
 rw[ZH 3 (n/16) (by omega)]
 rfl
theorem iY: ∀(k n:Nat),(SE k n).length≤k
 |0,_=>by simp[SE]
 |k+1,n=>by
  rw[SE]
  split
  ·simp
  ·simp[iY k]
theorem SD(n:Nat):(ON n).length≤5:=iY 5 n
theorem aR{m:Nat}(h:m<65536):(WS (m:Int)).toNat=m:=by
 show(UInt16.ofNat ((m:Int)%65536).toNat).toNat=m
 rw[show((m:Int)%65536).toNat=m by omega]
 simp[UInt16.toNat_ofNat,h]
theorem and15{x:Nat}(h:x<65536):JA .and .u16 (x:Int) ((15:UInt16).toNat:Int)=((x%16:Nat):Int):=by
 have h1:(BitVec.ofInt 16 (x:Int)&&&BitVec.ofInt 16 ((15:UInt16).toNat:Int)).toNat=x%16:=by
  rw[BitVec.toNat_and]
  have e1:(BitVec.ofInt 16 (x:Int)).toNat=x:=by
   rw[BitVec.toNat_ofInt];omega
  have e2:(BitVec.ofInt 16 ((15:UInt16).toNat:Int)).toNat=2^4-1:=by decide
  rw[e1,e2,Nat.and_two_pow_sub_one_eq_mod]
 unfold JA
 show((BitVec.ofInt 16 (x:Int)&&&BitVec.ofInt 16 ((15:UInt16).toNat:Int)).toNat:Int)=_
 rw[h1]
theorem enc_hd: ∀k:Fin 16,tO ((hd k.1).toNat:Int)=[hd k.1]:=by decide+kernel
theorem shr16(x:UInt16): ∃y:UInt16,(if((4:UInt64).toNat:Int)<0 then none else some (WS (Int.fdiv (x.toNat:Int) (2^(min ((4:UInt64).toNat:Int).toNat 16)))))=some y∧y.toNat=x.toNat/16:=by
 refine⟨_,if_neg (by decide),?_⟩
 rw[show((2:Int)^(min ((4:UInt64).toNat:Int).toNat 16))=((16:Nat):Int)from rfl,←Int.ofNat_fdiv,aR]
 have:=x.toNat_lt;omega
theorem iV(n:UInt16):Me n=some (ON n.toNat):=by
 unfold Me
 refine Cd (fun s=>s.1.toNat) (fun s=>s.2.length≤10∧s.2.length+(ON s.1.toNat).length≤5∧ON n.toNat=ON s.1.toNat++s.2) (fun r=>r= .inr (ON n.toNat)) ⟨by simp,by simpa using SD _,by simp⟩ ?_ ?_
 ·rintro⟨c,t⟩ ⟨h1,h2,h3⟩
  have hc:=c.toNat_lt
  dsimp only at h1 h2 h3 ⊢
  rw[and15 (by omega),aR (by omega),BD]
  have d:=Ua ⟨c.toNat%16,by omega⟩
  obtain⟨y,f1,f2⟩:=shr16 c
  have hx:((if(tO ((hd (c.toNat%16)).toNat:Int)).length+t.length≤2*Be then some (tO ((hd (c.toNat%16)).toNat:Int)++t)else none):Option AM)=some (hd (c.toNat%16)::t):=by
   rw[enc_hd ⟨c.toNat%16,by omega⟩,if_pos (by simp;unfold Be;omega)];rfl
  have hg:=dH (n:=c.toNat) (by omega)
  by_cases hy:y.toNat=0
  ·right
   refine⟨.inr (ON n.toNat),?_,rfl⟩
   refine(congrArg (fun x:Option UInt8=>x.bind _) d).trans ?_
   rw[Option.bind_some,hx,Option.bind_some,f1,Option.bind_some,if_pos (by rw[decide_eq_true_eq,hy];rfl)]
   rw[h3,hg,if_pos (by omega),Nat.mod_eq_of_lt (show c.toNat<16 by omega)]
   rfl
  ·left
   rw[if_neg (by omega)]at hg
   rw[hg,List.length_append,List.length_singleton,←f2]at h2
   refine⟨(y,hd (c.toNat%16)::t),?_,⟨by simp;omega,by simp;omega,?_⟩,by dsimp only;omega⟩
   ·refine(congrArg (fun x:Option UInt8=>x.bind _) d).trans ?_
    rw[Option.bind_some,hx,Option.bind_some,f1,Option.bind_some,if_neg (by rw[decide_eq_true_eq];intro h;exact hy (by simpa using h))]
   ·dsimp only;rw[h3,hg,f2];simp
 ·rintro _ rfl;rfl
theorem U3: ∀(k n:Nat),n<65536→(Da k (n:Int)=none∨Da k (n:Int)=some (ON n))∧(n<16^(k+1)→Da (k+1) (n:Int)=some (ON n)):=by
 have step: ∀(k n:Nat),n<65536→Da (k+1) (n:Int)=if n<16 then some (ON n)else(Da k ((n/16:Nat):Int)).bind fun x=>if x.length+1≤2*Be then some (x++[hd (n%16)])else none:=by
  intro k n hn
  rw[Da]
  by_cases h:n<16
  ·rw[if_pos (by rw[decide_eq_true_eq];omega),if_pos h,Ka ⟨n,h⟩,dH hn,if_pos h];rfl
  ·have q1:IntKind.i64.wrap (Int.tdiv (n:Int) 16)=((n/16:Nat):Int):=by
    rw[show(16:Int)=((16:Nat):Int)from rfl,←Int.ofNat_tdiv,Bz (by omega)]
   have q2:Int.tmod (n:Int) 16=((n%16:Nat):Int):=by
    rw[show(16:Int)=((16:Nat):Int)from rfl,←Int.ofNat_tmod]
   have d:=Ka ⟨n%16,by omega⟩
   dsimp only at d
   rw[if_neg (by rw[decide_eq_true_eq];omega),if_neg h,if_neg (by decide),Option.bind_some,q1]
   congr 1
   funext x
   rw[if_neg (by decide),Option.bind_some,q2,d,Option.bind_some]
   by_cases hx:x.length+1≤2*Be
   ·rw[if_pos (by simpa using hx),if_pos hx];rfl
   ·rw[if_neg (by simpa using hx),if_neg hx];rfl
 intro k
 induction k with
 |zero=>
  intro n hn
  refine⟨.inl rfl,fun h=> ?_⟩
  rw[step 0 n hn,if_pos (by simpa using h)]
 |succ k ih=>
  intro n hn
  have fin:Da k ((n/16:Nat):Int)=some (ON (n/16))→ ¬n<16→Da (k+1) (n:Int)=some (ON n):=fun e h=>by
   have hl:=SD (n/16)
   rw[step k n hn,if_neg h,e,Option.bind_some,if_pos (by unfold Be;omega),dH hn,if_neg h]
  have fin': ∀k,Da k ((n/16:Nat):Int)=some (ON (n/16))→ ¬n<16→Da (k+1) (n:Int)=some (ON n):=fun k e h=>by
   have hl:=SD (n/16)
   rw[step k n hn,if_neg h,e,Option.bind_some,if_pos (by unfold Be;omega),dH hn,if_neg h]
  constructor
  ·by_cases h:n<16
   ·right;rw[step k n hn,if_pos h]
   ·rcases(ih (n/16) (by omega)).1 with e|e
    ·left;rw[step k n hn,if_neg h,e];rfl
    ·right;exact fin e h
  ·intro hp
   by_cases h:n<16
   ·rw[step (k+1) n hn,if_pos h]
   ·refine fin' (k+1) ((ih (n/16) (by omega)).2 ?_) h
    rw[Nat.div_lt_iff_lt_mul (by decide),←Nat.pow_succ];exact hp
theorem rR(n:Nat)(h:n<65536):Qd (n:Int)=some (ON n):=
 jD (fun k=>(U3 k n h).1) ((U3 4 n h).2 (by omega))
def G16(B:List UInt8)(i:Nat):Nat:=256*((B[2*i]?).getD 0).toNat+((B[2*i+1]?).getD 0).toNat
theorem AaD(B:List UInt8)(i:Nat):G16 B i<65536:=by
 have h1:=((B[2*i]?).getD 0).toNat_lt
 have h2:=((B[2*i+1]?).getD 0).toNat_lt
 unfold G16;omega
theorem or8{x y:Nat}(hx:x<256)(hy:y<256):JA .or .u64 ((256*x:Nat):Int) (y:Int)=((256*x+y:Nat):Int):=by
 show((BitVec.ofInt 64 ((256*x:Nat):Int)|||BitVec.ofInt 64 (y:Int)).toNat:Int)=_
 rw[BitVec.toNat_or]
 have e1:(BitVec.ofInt 64 ((256*x:Nat):Int)).toNat=256*x:=by rw[BitVec.toNat_ofInt];omega
 have e2:(BitVec.ofInt 64 (y:Int)).toNat=y:=by rw[BitVec.toNat_ofInt];omega
 rw[e1,e2,show 256*x=2^8*x from rfl,←Nat.two_pow_add_eq_or_of_lt hy]
theorem shl8(x:UInt64)(h:x.toNat<256): ∃y:UInt64,(if((8:UInt64).toNat:Int)<0 then none else some (BQ ((x.toNat:Int)*2^(min ((8:UInt64).toNat:Int).toNat 64))))=some y∧y.toNat=256*x.toNat:=by
 refine⟨_,if_neg (by decide),?_⟩
 rw[show((2:Int)^(min ((8:UInt64).toNat:Int).toNat 64))=256 from rfl,show(x.toNat:Int)*256=((256*x.toNat:Nat):Int) by omega,JY (by omega)]
theorem sized2(x y:UInt8):Lg (.mk [x,y])=some true:=by
 unfold Lg;rfl
end Go.Proofs.YtobejhpigbllpaaGreatDoor.Am
namespace Go.Proofs.YtobejhpigbllpaaGreatDoor.Am
theorem zW{n a b:Nat}(h:a≤b)(h':b≤n):Tu n (some (a:Int)) (some (b:Int))=some (a,b):=by
 simp[Tu,h,h']
theorem zV{n a:Nat}(h:a≤n):Tu n (some (a:Int)) none=some (a,n):=by
 simp[Tu,h]
theorem ofBig2(x y:UInt8): ∃v:UInt64,Lh (.mk [x,y])=some (v,0)∧v.toNat=256*x.toNat+y.toNat:=by
 have hx:=x.toNat_lt
 have hy:=y.toNat_lt
 obtain⟨z0,f0,g0⟩:=shl8 0 (by decide)
 have hx64:=JY (m:=x.toNat) (by omega)
 have hy64:=JY (m:=y.toNat) (by omega)
 have v1:(BQ (JA .or .u64 (z0.toNat:Int) ((BQ (x.toNat:Int)).toNat:Int))).toNat=x.toNat:=by
  rw[hx64,g0,show(0:UInt64).toNat=0 from rfl,or8 (x:=0) (by decide) (by omega),Nat.mul_zero,Nat.zero_add,hx64]
 obtain⟨z1,f1,g1⟩:=shl8 (BQ (JA .or .u64 (z0.toNat:Int) ((BQ (x.toNat:Int)).toNat:Int))) (by omega)
 rw[v1]at g1
 refine⟨BQ (JA .or .u64 (z1.toNat:Int) ((BQ (y.toNat:Int)).toNat:Int)),?_,?_⟩
 ·unfold Lh
  rw[sized2,Option.bind_some,if_neg (by decide)]
  rw[Qj (s':=(BQ (JA .or .u64 (z0.toNat:Int) ((BQ (x.toNat:Int)).toNat:Int)),1)),Qj (s':=(BQ (JA .or .u64 (z1.toNat:Int) ((BQ (y.toNat:Int)).toNat:Int)),2)),TX (b:= .inl (BQ (JA .or .u64 (z1.toNat:Int) ((BQ (y.toNat:Int)).toNat:Int))))]
  ·rfl
  ·rfl
  ·dsimp only
   rw[if_pos (by simp),show Fo (GS.mk [x,y]).l 1=some y from rfl,Option.bind_some,f1]
   rfl
  ·dsimp only
   rw[if_pos (by simp),show Fo (GS.mk [x,y]).l 0=some x from rfl,Option.bind_some,f0]
   rfl
 ·rw[hy64,g1,or8 (by omega) (by omega),JY (by omega)]
theorem two_of{l:List UInt8}{i:Nat}(h:2*i+1<l.length):(l.drop (2*i)).take (2*i+2-2*i)=[(l[2*i]?).getD 0,(l[2*i+1]?).getD 0]:=by
 rw[show 2*i+2-2*i=2 by omega,List.drop_eq_getElem_cons (show 2*i<l.length by omega),List.drop_eq_getElem_cons h,List.getElem?_eq_getElem (show 2*i<l.length by omega),List.getElem?_eq_getElem h]
 rfl
def vals(B:List UInt8):List Nat:=(List.range 8).map (G16 B)
theorem Uh(B:Ar UInt8 16): ∃G:Ar UInt16 8,Li B=some G∧G.l.map (·.toNat)=vals B.l:=by
 have hB:=B.len
 unfold Li
 refine dA (fun s=>8-s.1.toNat) (fun s=> ∃i:Nat,s.1=i∧i≤8∧(s.2.l.take i).map (·.toNat)=(List.range i).map (G16 B.l)) (fun r=> ∃G:Ar UInt16 8,r= .inl G∧G.l.map (·.toNat)=vals B.l) ⟨0,rfl,by omega,rfl⟩ ?_ ?_
 ·rintro⟨s,A⟩ ⟨i,rfl,hi,hA⟩
  dsimp only at hA ⊢
  by_cases hlt:i<8
  ·left
   have w1:IntKind.i64.wrap (2*(i:Int))=((2*i:Nat):Int):=by rw[show 2*(i:Int)=((2*i:Nat):Int) by omega,Bz (by omega)]
   have w2:IntKind.i64.wrap (((2*i:Nat):Int)+2)=((2*i+2:Nat):Int):=by rw[show((2*i:Nat):Int)+2=((2*i+2:Nat):Int) by omega,Bz (by omega)]
   obtain⟨v,e,hv⟩:=ofBig2 ((B.l[2*i]?).getD 0) ((B.l[2*i+1]?).getD 0)
   have hg:=AaD B.l i
   have hv':v.toNat=G16 B.l i:=hv
   rw[if_pos (by rw[decide_eq_true_eq];omega),w1,w2,zW (by omega) (by omega),Option.bind_some]
   dsimp only
   rw[if_pos (by omega),two_of (by omega),e,Option.bind_some,Cl hlt,Option.bind_some,if_pos hlt,Option.bind_some]
   refine⟨_,rfl,⟨i+1,?_,by omega,?_⟩,?_⟩
   ·dsimp only;rw[show(i:Int)+1=((i+1:Nat):Int) by omega,Bz (by omega)]
   ·dsimp only
    have:((A.set i (WS (v.toNat:Int))).l.take (i+1))=A.l.take i++[WS (v.toNat:Int)]:=bX (by rw[A.len];exact hlt) rfl
    rw[this,List.map_append,hA,List.range_succ,List.map_append,List.map_singleton,List.map_singleton,aR (by omega),hv']
   ·dsimp only;rw[show(i:Int)+1=((i+1:Nat):Int) by omega,Bz (by omega)];omega
  ·right
   rw[if_neg (by rw[decide_eq_true_eq];omega)]
   refine⟨_,rfl,A,rfl,?_⟩
   obtain rfl:i=8:=by omega
   rw[List.take_of_length_le (by rw[A.len];omega)]at hA
   exact hA
 ·rintro _ ⟨G,rfl,hG⟩
  exact⟨G,rfl,hG⟩
theorem WL(B:Ar UInt8 16): ∃G:Ar Int 8,NL B=some G∧G.l=(vals B.l).map fun n:Nat=>(n:Int):=by
 have hB:=B.len
 unfold NL
 refine dA (fun s=>8-s.1.toNat) (fun s=> ∃i:Nat,s.1=i∧i≤8∧s.2.l.take i=((List.range i).map (G16 B.l)).map fun n:Nat=>(n:Int)) (fun r=> ∃G:Ar Int 8,r= .inl G∧G.l=(vals B.l).map fun n:Nat=>(n:Int)) ⟨0,rfl,by omega,rfl⟩ ?_ ?_
 ·rintro⟨s,A⟩ ⟨i,rfl,hi,hA⟩
  dsimp only at hA ⊢
  by_cases hlt:i<8
  ·left
   have w1:IntKind.i64.wrap (2*(i:Int))=((2*i:Nat):Int):=by rw[show 2*(i:Int)=((2*i:Nat):Int) by omega,Bz (by omega)]
   have w2:IntKind.i64.wrap (((2*i:Nat):Int)+1)=((2*i+1:Nat):Int):=by rw[show((2*i:Nat):Int)+1=((2*i+1:Nat):Int) by omega,Bz (by omega)]
   have h1:2*i<B.l.length:=by omega
   have h2:2*i+1<B.l.length:=by omega
   have b1:=B.l[2*i].toNat_lt
   have b2:=B.l[2*i+1].toNat_lt
   have hG:G16 B.l i=256*B.l[2*i].toNat+B.l[2*i+1].toNat:=by
    unfold G16;rw[List.getElem?_eq_getElem h1,List.getElem?_eq_getElem h2];rfl
   have e1:IntKind.i64.wrap (IntKind.i64.wrap (256*IntKind.i64.wrap (B.l[2*i].toNat:Int))+IntKind.i64.wrap (B.l[2*i+1].toNat:Int))=(G16 B.l i:Int):=by
    rw[Bz (by omega),Bz (by omega),show 256*(B.l[2*i].toNat:Int)=((256*B.l[2*i].toNat:Nat):Int) by omega,Bz (by omega),←Int.natCast_add,Bz (by omega),hG]
   rw[if_pos (by rw[decide_eq_true_eq];omega),w1,w2,Cl (by omega),Option.bind_some,List.getElem?_eq_getElem h1,Option.bind_some,Cl (by omega),Option.bind_some,List.getElem?_eq_getElem h2,Option.bind_some,e1,Cl hlt,Option.bind_some,if_pos hlt,Option.bind_some]
   refine⟨_,rfl,⟨i+1,?_,by omega,?_⟩,?_⟩
   ·dsimp only;rw[show(i:Int)+1=((i+1:Nat):Int) by omega,Bz (by omega)]
   ·dsimp only
    have:((A.set i (G16 B.l i:Int)).l.take (i+1))=A.l.take i++[(G16 B.l i:Int)]:=bX (by rw[A.len];exact hlt) rfl
    rw[this,hA,List.range_succ,List.map_append,List.map_append];rfl
   ·dsimp only;rw[show(i:Int)+1=((i+1:Nat):Int) by omega,Bz (by omega)];omega
  ·right
   rw[if_neg (by rw[decide_eq_true_eq];omega)]
   refine⟨_,rfl,A,rfl,?_⟩
   obtain rfl:i=8:=by omega
   rw[List.take_of_length_le (by rw[A.len];omega)]at hA
   exact hA
 ·rintro _ ⟨G,rfl,hG⟩
  exact⟨G,rfl,hG⟩
def KZ:List Bool→Nat→Nat→Nat→Nat→Nat×Nat
 |[],_,p,z,_=>(p,z)
 |b::l,i,p,z,w=>if b then(if z<w+1 then KZ l (i+1) (i+1-(w+1)) (w+1) (w+1)else KZ l (i+1) p z (w+1))else KZ l (i+1) p z 0
def WD:List Bool→Nat
 |[]=>0
 |b::l=>if b then WD l+1 else 0
theorem pA: ∀l,WD l≤l.length
 |[]=>Nat.le_refl _
 |b::l=>by have:=pA l;cases b<;>simp[WD];omega
theorem pB: ∀(l:List Bool) (k:Nat),k<WD l→l[k]? =some true
 |[],k,h=>by simp[WD]at h
 |false::l,k,h=>by simp[WD]at h
 |true::l,0,_=>rfl
 |true::l,k+1,h=>by simp only[WD,if_true]at h;simpa using pB l k (by omega)
theorem gC: ∀(l:List Bool),WD l<l.length→l[WD l]? =some false
 |[],h=>by simp at h
 |false::l,_=>rfl
 |true::l,h=>by simp only[WD,if_true,List.length_cons]at h ⊢;simpa using gC l (by omega)
def NI(l:List Bool)(i:Nat):Nat:=WD (l.drop i)
def mJ(l:List Bool):Nat→Nat→Nat→Nat→Nat×Nat
 |0,_,p,z=>(p,z)
 |k+1,i,p,z=>if z<NI l i then mJ l k (i+1) i (NI l i)else mJ l k (i+1) p z
theorem xU: ∀a b c d e f g h:Bool,KZ [a,b,c,d,e,f,g,h] 0 0 0 0=mJ [a,b,c,d,e,f,g,h] 8 0 0 0∧(KZ [a,b,c,d,e,f,g,h] 0 0 0 0).1+(KZ [a,b,c,d,e,f,g,h] 0 0 0 0).2≤8:=by decide+kernel
theorem gY{l:List Bool}(h:l.length=8):KZ l 0 0 0 0=mJ l 8 0 0 0∧(KZ l 0 0 0 0).1+(KZ l 0 0 0 0).2≤8:=by
 match l,h with
 |[a,b,c,d,e,f,g,h],_=>exact xU a b c d e f g h
def L7(l:List Nat):List Bool:=l.map fun n=>decide (n=0)
theorem gX(G:Ar UInt16 8):Ke G=some (((KZ (L7 (G.l.map (·.toNat))) 0 0 0 0).1:Int),((KZ (L7 (G.l.map (·.toNat))) 0 0 0 0).2:Int)):=by
 have hG:=G.len
 unfold Ke
 refine Cd (fun s=>8-s.2.2.2.toNat) (fun s=> ∃p z w i:Nat,s=((p:Int),(z:Int),(w:Int),(i:Int))∧i≤8∧w≤i∧KZ (L7 (G.l.map (·.toNat))) 0 0 0 0=KZ ((L7 (G.l.map (·.toNat))).drop i) i p z w)
  (fun r=>r= .inl (((KZ (L7 (G.l.map (·.toNat))) 0 0 0 0).1:Int),((KZ (L7 (G.l.map (·.toNat))) 0 0 0 0).2:Int))) ⟨0,0,0,0,rfl,by omega,by omega,rfl⟩ ?_ ?_
 ·rintro _ ⟨p,z,w,i,rfl,hi,hw,he⟩
  dsimp only
  by_cases hlt:i<8
  ·left
   have hz:(L7 (G.l.map (·.toNat))).drop i=decide (G.l[i].toNat=0)::(L7 (G.l.map (·.toNat))).drop (i+1):=by
    rw[List.drop_eq_getElem_cons (by simp[L7];omega)];simp[L7]
   rw[hz,KZ]at he
   rw[if_pos (by rw[decide_eq_true_eq];omega),BD,List.getElem?_eq_getElem (show i<G.l.length by omega),Option.bind_some]
   have w1:IntKind.i64.wrap ((i:Int)+1)=((i+1:Nat):Int):=by rw[show(i:Int)+1=((i+1:Nat):Int) by omega,Bz (by omega)]
   have w2:IntKind.i64.wrap ((w:Int)+1)=((w+1:Nat):Int):=by rw[show(w:Int)+1=((w+1:Nat):Int) by omega,Bz (by omega)]
   rw[w1,w2]
   by_cases h0:G.l[i].toNat=0
   ·rw[if_neg (by rw[h0];decide)]
    rw[if_pos (by simpa using h0)]at he
    by_cases h1:z<w+1
    ·rw[if_pos (by rw[decide_eq_true_eq];omega)]
     rw[if_pos h1]at he
     have w3:IntKind.i64.wrap (((i+1:Nat):Int)-((w+1:Nat):Int))=((i+1-(w+1):Nat):Int):=by rw[show((i+1:Nat):Int)-((w+1:Nat):Int)=((i+1-(w+1):Nat):Int) by omega,Bz (by omega)]
     rw[w3]
     exact⟨_,rfl,⟨_,_,_,_,rfl,by omega,by omega,he⟩,by dsimp only;omega⟩
    ·rw[if_neg (by rw[decide_eq_true_eq];omega)]
     rw[if_neg h1]at he
     exact⟨_,rfl,⟨_,_,_,_,rfl,by omega,by omega,he⟩,by dsimp only;omega⟩
   ·rw[if_pos (by rw[show((0:UInt16).toNat:Int)=0 from rfl];simp;omega)]
    rw[if_neg (by simpa using h0)]at he
    exact⟨_,rfl,⟨p,z,0,_,rfl,by omega,by omega,he⟩,by dsimp only;omega⟩
  ·right
   rw[if_neg (by rw[decide_eq_true_eq];omega)]
   obtain rfl:i=8:=by omega
   rw[List.drop_of_length_le (by simp[L7,hG])]at he
   exact⟨_,rfl,by rw[he];rfl⟩
 ·rintro _ rfl;rfl
theorem gI(G:Ar Int 8)(l:List Nat)(hG:G.l=l.map fun n:Nat=>(n:Int))(i:Nat)(hi:i≤8):Sp G (i:Int)=some (NI (L7 l) i:Int):=by
 have hl:l.length=8:=by have:=G.len;rw[hG]at this;simpa using this
 unfold Sp
 have hd:((L7 l).drop i).length=8-i:=by simp[L7,hl]
 have hle:NI (L7 l) i+i≤8:=by
  have:=pA ((L7 l).drop i)
  unfold NI;omega
 have hall: ∀k,k<NI (L7 l) i→l[i+k]? =some 0:=by
  intro k hk
  have h2:=pB _ k hk
  rw[List.getElem?_drop]at h2
  simp only[L7,List.getElem?_map]at h2
  obtain⟨x,hx,e⟩:=Option.map_eq_some_iff.1 h2
  rw[hx];simpa using e
 have hend:i+NI (L7 l) i<8→ ∃x,l[i+NI (L7 l) i]? =some x∧x≠0:=by
  intro hlt
  have h2:=gC ((L7 l).drop i) (by unfold NI at hlt;omega)
  rw[List.getElem?_drop]at h2
  have h3:(L7 l)[i+NI (L7 l) i]? =some false:=h2
  generalize NI (L7 l) i=m at h3 ⊢
  simp only[L7,List.getElem?_map]at h3
  obtain⟨x,hx,e⟩:=Option.map_eq_some_iff.1 h3
  exact⟨x,hx,by simpa using e⟩
 refine Cd (fun s=>8-s.toNat) (fun s=> ∃k:Nat,s=k∧k≤NI (L7 l) i) (fun r=>r= .inl (NI (L7 l) i:Int)) ⟨0,rfl,by omega⟩ ?_ ?_
 ·rintro _ ⟨k,rfl,hk⟩
  have w1:IntKind.i64.wrap ((i:Int)+(k:Int))=((i+k:Nat):Int):=by rw[←Int.natCast_add,Bz (by omega)]
  rw[w1]
  have hget: ∀x,l[i+k]? =some x→i+k<8→((DQ 8 ((i+k:Nat):Int)).bind fun x6=>(G.l[x6]?).bind fun x7=>some (decide (x7=0)))=some (decide (x=0)):=by
   intro x hx hlt
   rw[Cl hlt,Option.bind_some,hG,List.getElem?_map,hx,Option.map_some,Option.bind_some]
   simp
  rcases Nat.lt_or_ge k (NI (L7 l) i)with hlt|hge
  ·left
   rw[decide_eq_true (show((i+k:Nat):Int)<8 by omega),hget 0 (hall k hlt) (by omega)]
   refine⟨((k+1:Nat):Int),?_,⟨k+1,rfl,hlt⟩,by omega⟩
   show some (Sum.inl (IntKind.i64.wrap ((k:Int)+1)))=_
   rw[show(k:Int)+1=((k+1:Nat):Int) by omega,Bz (by omega)]
  ·right
   obtain rfl:k=NI (L7 l) i:=by omega
   refine⟨_,?_,rfl⟩
   rcases Nat.lt_or_ge (i+NI (L7 l) i) 8 with h8|h8
   ·obtain⟨x,hx,hne⟩:=hend h8
    rw[decide_eq_true (show((i+NI (L7 l) i:Nat):Int)<8 by omega),hget x hx h8,decide_eq_false hne]
    rfl
   ·rw[decide_eq_false (show¬((i+NI (L7 l) i:Nat):Int)<8 by omega)]
    rfl
 ·rintro _ rfl;rfl
def TF(l:List Nat):AM:=Ey [58] (l.map ON)
theorem Jg(l:List Nat):(TF l).length≤6*l.length:=by
 unfold TF
 rw[L0]
 have:=Wn (l:=l.map ON) (n:=5) (fun x hx=>by obtain⟨b,_,rfl⟩:=List.mem_map.1 hx;exact SD _)
 simp at this ⊢
 omega
theorem MN(g:GS UInt16)(hg:g.l.length≤8):L4 g=some (TF (g.l.map (·.toNat))):=by
 unfold L4
 refine Cd (fun s=>g.l.length-s.1.toNat) (fun s=> ∃i:Nat,s.1=i∧i≤g.l.length∧s.2=ZJ ((g.l.take i).map fun x=>ON x.toNat)) (fun r=>r= .inl (ZJ (g.l.map fun x=>ON x.toNat))) ⟨0,rfl,by omega,rfl⟩ ?_ ?_
 ·rintro⟨s,t⟩ ⟨i,rfl,hi,rfl⟩
  dsimp only
  by_cases hlt:i<g.l.length
  ·left
   rw[if_pos (by rw[decide_eq_true_eq];omega),BD,List.getElem?_eq_getElem hlt,Option.bind_some,iV,Option.bind_some,Kn (by rw[QX,List.length_map,List.length_take];unfold Be;omega),Option.bind_some]
   refine⟨_,rfl,⟨i+1,?_,by omega,?_⟩,?_⟩
   ·dsimp only;rw[show(i:Int)+1=((i+1:Nat):Int) by omega,Bz (by omega)]
   ·dsimp only;rw[QX,List.take_succ_eq_append_getElem hlt,List.map_append,List.map_singleton,PD]
   ·dsimp only;rw[show(i:Int)+1=((i+1:Nat):Int) by omega,Bz (by omega)];omega
  ·right
   rw[if_neg (by rw[decide_eq_true_eq];omega)]
   exact⟨_,rfl,by rw[List.take_of_length_le (by omega)]⟩
 ·rintro _ rfl
  dsimp only[Sum.elim_inl]
  have hl:=Jg (g.l.map (·.toNat))
  have he:(ZJ (g.l.map fun x=>ON x.toNat)).l=(g.l.map (·.toNat)).map ON:=by rw[QX,List.map_map];rfl
  rw[List.length_map]at hl
  have hj:=iT (ZJ (g.l.map fun x=>ON x.toNat)) [58] (by rw[he];simp;omega) (by decide) (by rw[he];exact Nat.lt_of_le_of_lt hl (by omega))
  rw[hj,he];rfl
theorem Pw(G:Ar Int 8)(l:List Nat)(hG:G.l=l.map fun n:Nat=>(n:Int))(hb: ∀n∈l,n<65536)(a b:Nat)(hab:a≤b)(h8:b≤8):Qb G (a:Int) (b:Int)=some (TF ((l.take b).drop a)):=by
 have hl:l.length=8:=by have:=G.len;rw[hG]at this;simpa using this
 unfold Qb
 refine Cd (fun s=>b-s.2.toNat) (fun s=> ∃i:Nat,s.2=i∧a≤i∧i≤b∧s.1=TF ((l.take i).drop a)) (fun r=>r= .inl (TF ((l.take b).drop a))) ⟨a,rfl,by omega,hab,by rw[List.drop_of_length_le (by rw[List.length_take];omega)];rfl⟩ ?_ ?_
 ·rintro⟨t,s⟩ ⟨i,rfl,hi,hib,rfl⟩
  dsimp only
  have hln:=Jg ((l.take i).drop a)
  rw[List.length_drop,List.length_take]at hln
  by_cases hlt:i<b
  ·left
   have hil:i<l.length:=by omega
   have hgl:=SD l[i]
   rw[if_pos (by rw[decide_eq_true_eq];omega)]
   have hnext:(l.take (i+1)).drop a=(l.take i).drop a++[l[i]]:=by
    rw[List.take_succ_eq_append_getElem hil,List.drop_append_of_le_length (by rw[List.length_take];omega)]
   have hgrp:Qd ((l[i]:Nat):Int)=some (ON l[i]):=rR _ (hb _ (List.getElem_mem hil))
   have hGi:G.l[i]? =some ((l[i]:Nat):Int):=by rw[hG,List.getElem?_map,List.getElem?_eq_getElem hil];rfl
   refine⟨(TF ((l.take (i+1)).drop a),((i+1:Nat):Int)),?_,⟨i+1,rfl,by omega,by omega,rfl⟩,by dsimp only;omega⟩
   by_cases hai:a<i
   ·rw[if_pos (by rw[decide_eq_true_eq];omega),if_pos (by simp;unfold Be;omega),Option.bind_some,Option.bind_some]
    dsimp only[Sum.elim_inl]
    rw[Cl (by omega),Option.bind_some,hGi,Option.bind_some,hgrp,Option.bind_some,if_pos (by simp;unfold Be;omega),Option.bind_some,hnext]
    unfold TF
    rw[List.map_append,List.map_singleton,NY _ _ _ (by
     intro h
     have:=congrArg List.length h
     simp at this
     omega),show(i:Int)+1=((i+1:Nat):Int) by omega,Bz (by omega)]
   ·rw[if_neg (by rw[decide_eq_true_eq];omega),Option.bind_some]
    dsimp only[Sum.elim_inl]
    obtain rfl:a=i:=by omega
    have hnil:TF ((l.take a).drop a)=[]:=by rw[List.drop_of_length_le (by rw[List.length_take];omega)];rfl
    rw[hnil,Cl (by omega),Option.bind_some,hGi,Option.bind_some,hgrp,Option.bind_some,if_pos (by simp;unfold Be;omega),Option.bind_some,hnext,List.drop_of_length_le (by rw[List.length_take];omega),show(a:Int)+1=((a+1:Nat):Int) by omega,Bz (by omega)]
    rfl
  ·right
   rw[if_neg (by rw[decide_eq_true_eq];omega)]
   obtain rfl:i=b:=by omega
   exact⟨_,rfl,rfl⟩
 ·rintro _ rfl;rfl
def kT(B:List UInt8):AM:=
 let v:=vals B
 let q:=KZ (L7 v) 0 0 0 0
 if q.2<2 then TF v else TF (v.take q.1)++[58,58]++TF (v.drop (q.1+q.2))
theorem HT(B:List UInt8):(vals B).length=8:=by simp[vals]
theorem aO(B:List UInt8): ∀n∈vals B,n<65536:=fun n hn=>by
 obtain⟨i,_,rfl⟩:=List.mem_map.1 hn;exact AaD B i
theorem zL(B:List UInt8):(kT B).length≤100:=by
 unfold kT
 dsimp only
 split
 ·have:=Jg (vals B);rw[HT]at this;omega
 ·rename_i h
  have h1:=Jg ((vals B).take (KZ (L7 (vals B)) 0 0 0 0).1)
  have h2:=Jg ((vals B).drop ((KZ (L7 (vals B)) 0 0 0 0).1+(KZ (L7 (vals B)) 0 0 0 0).2))
  rw[List.length_take,HT]at h1
  rw[List.length_drop,HT]at h2
  simp only[List.length_append,List.length_cons,List.length_nil]
  omega
theorem oA(B:Ar UInt8 16):Oj B=some (kT B.l):=by
 obtain⟨G,e1,hG⟩:=Uh B
 have hGl:=G.len
 have e2:=gX G
 rw[hG]at e2
 obtain⟨_,hq⟩:=gY (l:=L7 (vals B.l)) (by simp[L7,HT])
 unfold Oj kT
 rw[e1,Option.bind_some,e2,Option.bind_some]
 dsimp only
 generalize KZ (L7 (vals B.l)) 0 0 0 0=q at*
 obtain⟨p,z⟩:=q
 dsimp only at*
 by_cases h:z<2
 ·rw[if_pos (by rw[decide_eq_true_eq];omega),if_pos h,if_pos (by decide),List.drop_zero,List.take_of_length_le (by omega),MN _ (by simp;omega),EY,hG]
  rfl
 ·have hr1:=MN (.mk (G.l.take p)) (by simp;omega)
  have hr2:=MN (.mk (G.l.drop (p+z))) (by simp;omega)
  rw[EY,List.map_take,hG]at hr1
  rw[EY,List.map_drop,hG]at hr2
  have l1:=Jg ((vals B.l).take p)
  have l2:=Jg ((vals B.l).drop (p+z))
  rw[List.length_take,HT]at l1
  rw[List.length_drop,HT]at l2
  rw[if_neg (by rw[decide_eq_true_eq];omega),if_neg h,zT (by omega),Option.bind_some,if_pos (by omega),List.drop_zero,hr1,Option.bind_some,if_pos (by simp;unfold Be;omega),Option.bind_some,
   show(p:Int)+(z:Int)=((p+z:Nat):Int) by omega,Bz (by omega),zV (by omega),Option.bind_some]
  dsimp only
  rw[if_pos (by omega),List.take_of_length_le (by rw[List.length_drop];omega),hr2,Option.bind_some,if_pos (by simp;unfold Be;omega)]
  rfl
theorem vR(B:Ar UInt8 16):Sq B=some (kT B.l):=by
 obtain⟨G,e1,hG⟩:=WL B
 obtain⟨hAB,hq⟩:=gY (l:=L7 (vals B.l)) (by simp[L7,HT])
 have hv:=HT B.l
 generalize hR:mJ (L7 (vals B.l)) 8 0 0 0=R at*
 unfold Sq
 rw[e1,Option.bind_some]
 refine Cd (fun s=>8-s.2.2.toNat) (fun s=> ∃p z i:Nat,s=((p:Int),(z:Int),(i:Int))∧i≤8∧R=mJ (L7 (vals B.l)) (8-i) i p z)
  (fun r=>r= .inl (((KZ (L7 (vals B.l)) 0 0 0 0).1:Int),((KZ (L7 (vals B.l)) 0 0 0 0).2:Int))) ⟨0,0,0,rfl,by omega,hR.symm⟩ ?_ ?_
 ·rintro _ ⟨p,z,i,rfl,hi,he⟩
  dsimp only
  by_cases hlt:i<8
  ·left
   have w1:IntKind.i64.wrap ((i:Int)+1)=((i+1:Nat):Int):=by rw[show(i:Int)+1=((i+1:Nat):Int) by omega,Bz (by omega)]
   rw[if_pos (by rw[decide_eq_true_eq];omega),gI G _ hG i (by omega),Option.bind_some,w1]
   rw[show 8-i=(8-(i+1))+1 by omega,mJ]at he
   by_cases h:z<NI (L7 (vals B.l)) i
   ·rw[if_pos (by rw[decide_eq_true_eq];omega),Option.bind_some]
    rw[if_pos h]at he
    exact⟨_,rfl,⟨_,_,_,rfl,by omega,he⟩,by dsimp only;omega⟩
   ·rw[if_neg (by rw[decide_eq_true_eq];omega)]
    rw[if_neg h]at he
    exact⟨_,rfl,⟨_,_,_,rfl,by omega,he⟩,by dsimp only;omega⟩
  ·right
   rw[if_neg (by rw[decide_eq_true_eq];omega)]
   obtain rfl:i=8:=by omega
   refine⟨_,rfl,?_⟩
   rw[hAB,he];rfl
 ·rintro _ rfl
  dsimp only[Sum.elim_inl]
  unfold kT
  dsimp only
  generalize KZ (L7 (vals B.l)) 0 0 0 0=q at*
  obtain⟨p,z⟩:=q
  dsimp only at*
  have l1:=Jg ((vals B.l).take p)
  have l2:=Jg ((vals B.l).drop (p+z))
  rw[List.length_take,HT]at l1
  rw[List.length_drop,HT]at l2
  have hr0:=Pw G _ hG (aO B.l) 0 8 (by omega) (by omega)
  rw[List.drop_zero,List.take_of_length_le (by omega)]at hr0
  by_cases h:z<2
  ·rw[if_pos (by rw[decide_eq_true_eq];omega),if_pos h]
   exact(congrArg (fun x:Option AM=>x.bind fun y=>some y) hr0)
  ·have hr1:=Pw G _ hG (aO B.l) 0 p (by omega) (by omega)
   have hr2:=Pw G _ hG (aO B.l) (p+z) 8 (by omega) (by omega)
   rw[List.drop_zero]at hr1
   rw[List.take_of_length_le (show(vals B.l).length≤8 by omega)]at hr2
   rw[if_neg (by rw[decide_eq_true_eq];omega),if_neg h,show(p:Int)+(z:Int)=((p+z:Nat):Int) by omega,Bz (by omega)]
   refine(congrArg (fun x:Option AM=>x.bind _) hr1).trans ?_
   rw[Option.bind_some,if_pos (by simp;unfold Be;omega),Option.bind_some]
   refine(congrArg (fun x:Option AM=>x.bind _) hr2).trans ?_
   rw[Option.bind_some,if_pos (by simp;unfold Be;omega)]
   rfl
end Go.Proofs.YtobejhpigbllpaaGreatDoor.Am
namespace Go.Proofs.YtobejhpigbllpaaGreatDoor.Am
def PM(a:AB):AM:=if DO a=true then(if a.V=4 then QQ (a.B.l.take 4)else kT a.B.l)else []
theorem L6(a:AB):(PM a).length≤100:=by
 unfold PM
 split
 ·split
  ·have:=TI (a.B.l.take 4);rw[List.length_take]at this;omega
  ·exact zL _
 ·simp
theorem WF{a:AB}(h:DO a=true)(h4: ¬a.V=4):a.V=6:=by
 unfold DO at h
 rw[decide_eq_true_eq]at h
 rcases h with h|h
 ·exact h
 ·exact absurd h.1 h4
theorem aG(a:AB):L5 a=some (PM a):=by
 unfold L5 PM
 rw[LL,Option.bind_some]
 by_cases h:DO a=true
 ·rw[h,if_neg (by decide),if_pos rfl]
  by_cases h4:a.V=4
  ·rw[if_pos (by rw[decide_eq_true_eq];exact h4),if_pos h4]
   exact congrArg (fun x:Option AM=>x.bind fun y=>some y) (rS _)
  ·rw[if_neg (by rw[decide_eq_true_eq];exact h4),if_neg h4,oA];rfl
 ·rw[if_neg h]
  have h':DO a=false:=by simpa using h
  rw[h',if_pos (by decide)]
theorem gH(a:AB):Ng a=some (PM a):=by
 unfold Ng PM
 rw[Nd,Option.bind_some]
 have hB:=a.B.len
 by_cases h:DO a=true
 ·rw[h,if_neg (by decide),if_pos rfl]
  by_cases h4:a.V=4
  ·rw[if_neg (by rw[decide_eq_true_eq];omega),if_pos h4]
   have g: ∀i:Nat,i<16→((DQ 16 (i:Int)).bind fun x=>a.B.l[x]?)=some ((a.B.l[i]?).getD 0):=fun i hi=>by
    rw[Cl hi,Option.bind_some,List.getElem?_eq_getElem (by omega)];rfl
   have e:[(a.B.l[0]?).getD 0,(a.B.l[1]?).getD 0,(a.B.l[2]?).getD 0,(a.B.l[3]?).getD 0]=a.B.l.take 4:=by
    match hl:a.B.l,hB with
    |b0::b1::b2::b3::r,_=>rfl
   have h0:a.B.l[0]? =some ((a.B.l[0]?).getD 0):=by rw[List.getElem?_eq_getElem (by omega)];rfl
   have h1:a.B.l[1]? =some ((a.B.l[1]?).getD 0):=by rw[List.getElem?_eq_getElem (by omega)];rfl
   have h2:a.B.l[2]? =some ((a.B.l[2]?).getD 0):=by rw[List.getElem?_eq_getElem (by omega)];rfl
   have h3:a.B.l[3]? =some ((a.B.l[3]?).getD 0):=by rw[List.getElem?_eq_getElem (by omega)];rfl
   rw[show(0:Int)=((0:Nat):Int)from rfl,Cl (by decide),Option.bind_some,h0,Option.bind_some,show(1:Int)=((1:Nat):Int)from rfl,Cl (by decide),Option.bind_some,h1,Option.bind_some,
    show(2:Int)=((2:Nat):Int)from rfl,Cl (by decide),Option.bind_some,h2,Option.bind_some,show(3:Int)=((3:Nat):Int)from rfl,Cl (by decide),Option.bind_some,h3,Option.bind_some,vS]
   exact congrArg (fun l=>some (QQ l)) e
  ·rw[if_pos (by rw[decide_eq_true_eq];exact WF h h4),if_neg h4,vR];rfl
 ·rw[if_neg h]
  have h':DO a=false:=by simpa using h
  rw[h',if_pos (by decide)]
def Ns(e:AF):AM:=if Gn e=true then(if e.A.V=6 then [91]++PM e.A++[93,58]++Dw e.Port.toNat else PM e.A++[58]++Dw e.Port.toNat)else []
theorem sZ(e:AF):(Ns e).length≤130:=by
 have h1:=L6 e.A
 have h2:=Hl e.Port.toNat
 unfold Ns
 split
 ·split<;>simp<;>omega
 ·simp
theorem U2{e:AF}(h:Gn e=true):DO e.A=true∧1≤e.Port∧e.Port≤65535:=by
 unfold Gn at h
 simpa [Bool.and_eq_true]using h
theorem Sw{p:Int}(h:0≤p)(h':p<18446744073709551616):(BQ p).toNat=p.toNat:=by
 have:=JY (m:=p.toNat) (by omega)
 rwa [Int.toNat_of_nonneg h]at this
theorem sY(e:AF):Kb e=some (Ns e):=by
 unfold Kb Ns
 have hl:=L6 e.A
 have hd:=Hl e.Port.toNat
 rw[R5,Option.bind_some]
 by_cases h:Gn e=true
 ·obtain⟨hA,p1,p2⟩:=U2 h
  have hp:DB (BQ e.Port)=some (Dw e.Port.toNat):=by rw[Jo,Sw (by omega) (by omega)]
  rw[h,if_neg (by decide),if_pos rfl,hp,Option.bind_some,XX,Option.bind_some,aG]
  have hw:(32:Int)<(Ef e.A:Int)↔e.A.V=6:=by
   unfold Ef
   rw[if_pos hA]
   by_cases h4:e.A.V=4
   ·rw[if_pos h4];omega
   ·rw[if_neg h4];have:=WF hA h4;omega
  by_cases h6:e.A.V=6
  ·rw[if_pos (by rw[decide_eq_true_eq];exact hw.2 h6),if_pos h6,Option.bind_some,if_pos (by simp;unfold Be;omega),Option.bind_some,if_pos (by simp;unfold Be;omega),Option.bind_some,if_pos (by simp;unfold Be;omega)]
   rfl
  ·rw[if_neg (by rw[decide_eq_true_eq];exact fun g=>h6 (hw.1 g)),if_neg h6,Option.bind_some,if_pos (by simp;unfold Be;omega),Option.bind_some,if_pos (by simp;unfold Be;omega)]
   rfl
 ·rw[if_neg h]
  have h':Gn e=false:=by simpa using h
  rw[h',if_pos (by decide)]
theorem vN(e:AF):Pu e=some (Ns e):=by
 unfold Pu Ns
 have hl:=L6 e.A
 have hd:=Hl e.Port.toNat
 rw[Zx,Option.bind_some]
 by_cases h:Gn e=true
 ·obtain⟨hA,p1,p2⟩:=U2 h
  have hp:FN (BQ e.Port)=some (Dw e.Port.toNat):=by rw[Su,Sw (by omega) (by omega)]
  rw[h,if_neg (by decide),if_pos rfl,hp,Option.bind_some,if_pos (by simp;unfold Be;omega),Option.bind_some,gH]
  by_cases h6:e.A.V=6
  ·rw[if_pos (by rw[decide_eq_true_eq];exact h6),if_pos h6,Option.bind_some,if_pos (by simp;unfold Be;omega),Option.bind_some,if_pos (by simp;unfold Be;omega),Option.bind_some,if_pos (by simp;unfold Be;omega)]
   simp
  ·rw[if_neg (by rw[decide_eq_true_eq];exact h6),if_neg h6,Option.bind_some,if_pos (by simp;unfold Be;omega)]
   simp
 ·rw[if_neg h]
  have h':Gn e=false:=by simpa using h
  rw[h',if_pos (by decide)]
def Nz(p:Aq):AM:=if Hb p=true then PM p.A++[47]++Dw p.Bits.toNat else []
theorem tW(p:Aq):(Nz p).length≤130:=by
 have h1:=L6 p.A
 have h2:=Hl p.Bits.toNat
 unfold Nz
 split
 ·simp;omega
 ·simp
theorem U1{p:Aq}(h:Hb p=true):0≤p.Bits∧p.Bits≤128:=by
 unfold Hb at h
 simp only[Bool.and_eq_true,decide_eq_true_eq]at h
 have:=Wh p.A
 omega
theorem tU(p:Aq):Qo p=some (Nz p):=by
 unfold Qo Nz
 have hl:=L6 p.A
 have hd:=Hl p.Bits.toNat
 rw[Ok,Option.bind_some]
 by_cases h:Hb p=true
 ·obtain⟨b1,b2⟩:=U1 h
  have hp:DB (BQ p.Bits)=some (Dw p.Bits.toNat):=by rw[Jo,Sw (by omega) (by omega)]
  rw[h,if_neg (by decide),if_pos rfl,aG,Option.bind_some,if_pos (by simp;unfold Be;omega),Option.bind_some,hp,Option.bind_some,if_pos (by simp;unfold Be;omega)]
  rfl
 ·rw[if_neg h]
  have h':Hb p=false:=by simpa using h
  rw[h',if_pos (by decide)]
theorem vO(p:Aq):Pv p=some (Nz p):=by
 unfold Pv Nz
 have hl:=L6 p.A
 have hd:=Hl p.Bits.toNat
 rw[Nb,Option.bind_some]
 by_cases h:Hb p=true
 ·obtain⟨b1,b2⟩:=U1 h
  have hp:FN (BQ p.Bits)=some (Dw p.Bits.toNat):=by rw[Su,Sw (by omega) (by omega)]
  rw[h,if_neg (by decide),if_pos rfl,gH,Option.bind_some,if_pos (by simp;unfold Be;omega),Option.bind_some,hp,Option.bind_some,if_pos (by simp;unfold Be;omega)]
  rfl
 ·rw[if_neg h]
  have h':Hb p=false:=by simpa using h
  rw[h',if_pos (by decide)]
theorem pU: ∀k:Fin 16,hd k.1≠10:=by decide+kernel
theorem hexL_ne(l:List UInt8):(10:UInt8)∉JN l:=by
 intro h
 obtain⟨b,_,hb⟩:=List.mem_flatMap.1 h
 have hlt:=b.toNat_lt
 simp only[hexB,List.mem_cons,List.not_mem_nil,or_false]at hb
 rcases hb with hb|hb
 ·exact pU ⟨b.toNat/16,by omega⟩ hb.symm
 ·exact pU ⟨b.toNat%16,by omega⟩ hb.symm
theorem zH{k:Nat}(h:k<10):UInt8.ofNat (48+k)≠10:=by
 intro e
 have:=congrArg UInt8.toNat e
 rw[nat8 (by omega)]at this
 simp at this
 omega
theorem kR: ∀(k n:Nat),(10:UInt8)∉K8 k n
 |0,_=>by simp[K8]
 |k+1,n=>by
  rw[K8]
  split
  ·rename_i h
   simp only[List.mem_singleton]
   exact fun e=>zH h e.symm
  ·simp only[List.mem_append,List.mem_singleton,not_or]
   exact⟨kR k _,fun e=>zH (Nat.mod_lt _ (by decide)) e.symm⟩
theorem ST(n:Nat):(10:UInt8)∉Dw n:=kR 20 n
theorem Xj{sep:AM}(hs:(10:UInt8)∉sep): ∀{l:List AM},(∀x∈l,(10:UInt8)∉x)→(10:UInt8)∉Ey sep l
 |[],_=>by simp[Ey]
 |[x],h=>h x (by simp)
 |x::y::r,h=>by
  simp only[Ey,List.mem_append,not_or]
  exact⟨⟨h x (by simp),hs⟩,Xj hs fun z hz=>h z (by simp[hz])⟩
theorem pY: ∀(k n:Nat),(10:UInt8)∉SE k n
 |0,_=>by simp[SE]
 |k+1,n=>by
  rw[SE]
  split
  ·rename_i h
   simp only[List.mem_singleton]
   exact fun e=>pU ⟨n,h⟩ e.symm
  ·simp only[List.mem_append,List.mem_singleton,not_or]
   exact⟨pY k _,fun e=>pU ⟨n%16,Nat.mod_lt _ (by decide)⟩ e.symm⟩
theorem bZ(l:List Nat):(10:UInt8)∉TF l:=Xj (by decide) fun x hx=>by
 obtain⟨n,_,rfl⟩:=List.mem_map.1 hx;exact pY 5 n
theorem XY(a:AB):(10:UInt8)∉PM a:=by
 unfold PM
 split
 ·split
  ·exact Xj (by decide) fun x hx=>by obtain⟨n,_,rfl⟩:=List.mem_map.1 hx;exact ST _
  ·unfold kT
   dsimp only
   split
   ·exact bZ _
   ·simp only[List.mem_append,not_or]
    exact⟨⟨bZ _,by decide⟩,bZ _⟩
 ·simp
theorem yI(e:AF):(10:UInt8)∉Ns e:=by
 unfold Ns
 split
 ·split
  ·simp only[List.mem_append,not_or];exact⟨⟨⟨by decide,XY _⟩,by decide⟩,ST _⟩
  ·simp only[List.mem_append,not_or];exact⟨⟨XY _,by decide⟩,ST _⟩
 ·simp
theorem zN(p:Aq):(10:UInt8)∉Nz p:=by
 unfold Nz
 split
 ·simp only[List.mem_append,not_or];exact⟨⟨XY _,by decide⟩,ST _⟩
 ·simp
end Go.Proofs.YtobejhpigbllpaaGreatDoor.Am
namespace Go.Proofs.YtobejhpigbllpaaGreatDoor.Am
abbrev zK:Ar UInt8 32:=(Ay 32 T.u8).z
abbrev zE:AF:=Ao.z
abbrev zP:Aq:=Aj.z
def QS(w:Nat):AM:=(tD.l[w]?).getD []
theorem Ck: ∀w:Fin 17,1≤w.1→G2 (w.1:Int)=some (QS w.1)∧QS w.1≠[]∧61∉QS w.1∧10∉QS w.1∧(QS w.1).length≤40∧((PW ()).bind fun g=>Fo g.l (w.1:Int))=some (QS w.1):=by decide+kernel
def rA(f:Ap):AM:=
 if f.Word=1∨f.Word=5∨f.Word=8 then JN f.Key.l else if f.Word=9 then Ns f.End else if f.Word=12 then Nz f.P else Dw f.N.toNat
def Kw(f:Ap):A7:=⟨QS f.Word.toNat,rA f⟩
def mostF(w:Int):Nat:=if w=2∨w=10 then 65535 else if w=3 then 4294967295 else if w=13 then 1 else if w=16 then 20 else 18446744073709551615
def xY(w:Int):Nat:=if w=13 then 1 else 0
inductive RI:Ap→Prop where
 |key {w:Int} {K:Ar UInt8 32} (hw:w=1∨w=5∨w=8):RI ⟨w,K,0,zE,zP⟩
 |num {w:Int} {n:UInt64} (hw:w=2∨w=3∨w=10∨w=13∨w=14∨w=15∨w=16) (h1:xY w≤n.toNat) (h2:n.toNat≤mostF w):RI ⟨w,zK,n,zE,zP⟩
 |host {e:AF} (h:Gn e=true):RI ⟨9,zK,0,e,zP⟩
 |pre {p:Aq} (h:Hb p=true):RI ⟨12,zK,0,zE,p⟩
theorem JL(f:Ap):FB f=some (JN f.Key.l,true):=by
 unfold FB;rw[yB];rfl
theorem XB(f:Ap):Ie f=some (Ns f.End,Gn f.End):=by
 unfold Ie;rw[sY,R5];rfl
theorem Tk(f:Ap):GD f=some (Nz f.P,Hb f.P):=by
 unfold GD;rw[tU,Ok];rfl
theorem rM{w:Int}{K:Ar UInt8 32}(hw:w=1∨w=5∨w=8):Gf ⟨w,K,0,zE,zP⟩=some true:=by
 have hc:HH CF (⟨w,zK,0,zE,zP⟩:Ap) ⟨w,zK,0,zE,zP⟩=true:=K9 rfl
 rcases hw with rfl|rfl|rfl
 ·have hn:=(Ck ⟨1,by decide⟩ (by decide)).1
  refine(congrArg (fun x:Option AM=>x.bind _) hn).trans ?_
  refine(congrArg (fun x:Option (AM×Bool)=>x.bind _) (JL ⟨1,K,0,zE,zP⟩)).trans ?_
  exact congrArg some hc
 ·have hn:=(Ck ⟨5,by decide⟩ (by decide)).1
  refine(congrArg (fun x:Option AM=>x.bind _) hn).trans ?_
  refine(congrArg (fun x:Option (AM×Bool)=>x.bind _) (JL ⟨5,K,0,zE,zP⟩)).trans ?_
  exact congrArg some hc
 ·have hn:=(Ck ⟨8,by decide⟩ (by decide)).1
  refine(congrArg (fun x:Option AM=>x.bind _) hn).trans ?_
  refine(congrArg (fun x:Option (AM×Bool)=>x.bind _) (JL ⟨8,K,0,zE,zP⟩)).trans ?_
  exact congrArg some hc
theorem GY{n lo hi:UInt64}(h1:lo.toNat≤n.toNat)(h2:n.toNat≤hi.toNat):Dx (decide ((lo.toNat:Int)≤(n.toNat:Int))) (some (decide ((n.toNat:Int)≤(hi.toNat:Int))))=some true:=by
 rw[decide_eq_true (Int.ofNat_le.2 h1),decide_eq_true (Int.ofNat_le.2 h2)];rfl
theorem rL{w:Int}{n:UInt64}(hw:w=2∨w=3∨w=10∨w=13∨w=14∨w=15∨w=16)(h1:xY w≤n.toNat)(h2:n.toNat≤mostF w):Gf ⟨w,zK,n,zE,zP⟩=some true:=by
 have hc:HH CF (⟨w,zK,0,zE,zP⟩:Ap) ⟨w,zK,0,zE,zP⟩=true:=K9 rfl
 have hd:=Jo n
 rcases hw with rfl|rfl|rfl|rfl|rfl|rfl|rfl
 ·refine(congrArg (fun x:Option AM=>x.bind _) (Ck ⟨2,by decide⟩ (by decide)).1).trans ?_
  refine(congrArg (fun x:Option AM=>(x.bind _).bind _) hd).trans ?_
  refine(congrArg (fun x:Option Bool=>(x.bind fun y=>some (Dw n.toNat,y)).bind _) (GY (n:=n) (lo:=0) (hi:=65535) h1 h2)).trans ?_
  exact congrArg some hc
 ·refine(congrArg (fun x:Option AM=>x.bind _) (Ck ⟨3,by decide⟩ (by decide)).1).trans ?_
  refine(congrArg (fun x:Option AM=>(x.bind _).bind _) hd).trans ?_
  refine(congrArg (fun x:Option Bool=>(x.bind fun y=>some (Dw n.toNat,y)).bind _) (GY (n:=n) (lo:=0) (hi:=4294967295) h1 h2)).trans ?_
  exact congrArg some hc
 ·refine(congrArg (fun x:Option AM=>x.bind _) (Ck ⟨10,by decide⟩ (by decide)).1).trans ?_
  refine(congrArg (fun x:Option AM=>(x.bind _).bind _) hd).trans ?_
  refine(congrArg (fun x:Option Bool=>(x.bind fun y=>some (Dw n.toNat,y)).bind _) (GY (n:=n) (lo:=0) (hi:=65535) h1 h2)).trans ?_
  exact congrArg some hc
 ·refine(congrArg (fun x:Option AM=>x.bind _) (Ck ⟨13,by decide⟩ (by decide)).1).trans ?_
  refine(congrArg (fun x:Option AM=>(x.bind _).bind _) hd).trans ?_
  refine(congrArg (fun x:Option Bool=>(x.bind fun y=>some (Dw n.toNat,y)).bind _) (GY (n:=n) (lo:=1) (hi:=1) h1 h2)).trans ?_
  exact congrArg some hc
 ·refine(congrArg (fun x:Option AM=>x.bind _) (Ck ⟨14,by decide⟩ (by decide)).1).trans ?_
  refine(congrArg (fun x:Option AM=>(x.bind _).bind _) hd).trans ?_
  refine(congrArg (fun x:Option Bool=>(x.bind fun y=>some (Dw n.toNat,y)).bind _) (GY (n:=n) (lo:=0) (hi:=18446744073709551615) h1 h2)).trans ?_
  exact congrArg some hc
 ·refine(congrArg (fun x:Option AM=>x.bind _) (Ck ⟨15,by decide⟩ (by decide)).1).trans ?_
  refine(congrArg (fun x:Option AM=>(x.bind _).bind _) hd).trans ?_
  refine(congrArg (fun x:Option Bool=>(x.bind fun y=>some (Dw n.toNat,y)).bind _) (GY (n:=n) (lo:=0) (hi:=18446744073709551615) h1 h2)).trans ?_
  exact congrArg some hc
 ·refine(congrArg (fun x:Option AM=>x.bind _) (Ck ⟨16,by decide⟩ (by decide)).1).trans ?_
  refine(congrArg (fun x:Option AM=>(x.bind _).bind _) hd).trans ?_
  refine(congrArg (fun x:Option Bool=>(x.bind fun y=>some (Dw n.toNat,y)).bind _) (GY (n:=n) (lo:=0) (hi:=20) h1 h2)).trans ?_
  exact congrArg some hc
theorem lQ{e:AF}(h:Gn e=true):Gf ⟨9,zK,0,e,zP⟩=some true:=by
 have hc:HH CF (⟨9,zK,0,zE,zP⟩:Ap) ⟨9,zK,0,zE,zP⟩=true:=K9 rfl
 have h2:=XB ⟨9,zK,0,e,zP⟩
 dsimp only at h2
 rw[h]at h2
 refine(congrArg (fun x:Option AM=>x.bind _) (Ck ⟨9,by decide⟩ (by decide)).1).trans ?_
 refine(congrArg (fun x:Option (AM×Bool)=>x.bind _) h2).trans ?_
 exact congrArg some hc
theorem rK{p:Aq}(h:Hb p=true):Gf ⟨12,zK,0,zE,p⟩=some true:=by
 have hc:HH CF (⟨12,zK,0,zE,zP⟩:Ap) ⟨12,zK,0,zE,zP⟩=true:=K9 rfl
 have h2:=Tk ⟨12,zK,0,zE,p⟩
 dsimp only at h2
 rw[h]at h2
 refine(congrArg (fun x:Option AM=>x.bind _) (Ck ⟨12,by decide⟩ (by decide)).1).trans ?_
 refine(congrArg (fun x:Option (AM×Bool)=>x.bind _) h2).trans ?_
 exact congrArg some hc
theorem pair_ok{f:Ap}(h:RI f):FE f=some (Kw f,0):=by
 cases h with
 | @key w K hw=>
  refine(congrArg (fun x:Option Bool=>x.bind _) (rM (K:=K) hw)).trans ?_
  rcases hw with rfl|rfl|rfl
  ·refine(congrArg (fun x:Option (AM×Bool)=>x.bind _) (JL ⟨1,K,0,zE,zP⟩)).trans ?_
   exact congrArg (fun x:Option AM=>x.bind fun y=>some ((⟨y,JN K.l⟩:A7),0)) (Ck ⟨1,by decide⟩ (by decide)).1
  ·refine(congrArg (fun x:Option (AM×Bool)=>x.bind _) (JL ⟨5,K,0,zE,zP⟩)).trans ?_
   exact congrArg (fun x:Option AM=>x.bind fun y=>some ((⟨y,JN K.l⟩:A7),0)) (Ck ⟨5,by decide⟩ (by decide)).1
  ·refine(congrArg (fun x:Option (AM×Bool)=>x.bind _) (JL ⟨8,K,0,zE,zP⟩)).trans ?_
   exact congrArg (fun x:Option AM=>x.bind fun y=>some ((⟨y,JN K.l⟩:A7),0)) (Ck ⟨8,by decide⟩ (by decide)).1
 | @num w n hw h1 h2=>
  refine(congrArg (fun x:Option Bool=>x.bind _) (rL hw h1 h2)).trans ?_
  have hd:=Jo n
  rcases hw with rfl|rfl|rfl|rfl|rfl|rfl|rfl
  ·refine(congrArg (fun x:Option AM=>(x.bind _).bind _) hd).trans ?_
   refine(congrArg (fun x:Option Bool=>(x.bind fun y=>some (Dw n.toNat,y)).bind _) (GY (n:=n) (lo:=0) (hi:=65535) h1 h2)).trans ?_
   exact congrArg (fun x:Option AM=>x.bind fun y=>some ((⟨y,Dw n.toNat⟩:A7),0)) (Ck ⟨2,by decide⟩ (by decide)).1
  ·refine(congrArg (fun x:Option AM=>(x.bind _).bind _) hd).trans ?_
   refine(congrArg (fun x:Option Bool=>(x.bind fun y=>some (Dw n.toNat,y)).bind _) (GY (n:=n) (lo:=0) (hi:=4294967295) h1 h2)).trans ?_
   exact congrArg (fun x:Option AM=>x.bind fun y=>some ((⟨y,Dw n.toNat⟩:A7),0)) (Ck ⟨3,by decide⟩ (by decide)).1
  ·refine(congrArg (fun x:Option AM=>(x.bind _).bind _) hd).trans ?_
   refine(congrArg (fun x:Option Bool=>(x.bind fun y=>some (Dw n.toNat,y)).bind _) (GY (n:=n) (lo:=0) (hi:=65535) h1 h2)).trans ?_
   exact congrArg (fun x:Option AM=>x.bind fun y=>some ((⟨y,Dw n.toNat⟩:A7),0)) (Ck ⟨10,by decide⟩ (by decide)).1
  ·refine(congrArg (fun x:Option AM=>(x.bind _).bind _) hd).trans ?_
   refine(congrArg (fun x:Option Bool=>(x.bind fun y=>some (Dw n.toNat,y)).bind _) (GY (n:=n) (lo:=1) (hi:=1) h1 h2)).trans ?_
   exact congrArg (fun x:Option AM=>x.bind fun y=>some ((⟨y,Dw n.toNat⟩:A7),0)) (Ck ⟨13,by decide⟩ (by decide)).1
  ·refine(congrArg (fun x:Option AM=>(x.bind _).bind _) hd).trans ?_
   refine(congrArg (fun x:Option Bool=>(x.bind fun y=>some (Dw n.toNat,y)).bind _) (GY (n:=n) (lo:=0) (hi:=18446744073709551615) h1 h2)).trans ?_
   exact congrArg (fun x:Option AM=>x.bind fun y=>some ((⟨y,Dw n.toNat⟩:A7),0)) (Ck ⟨14,by decide⟩ (by decide)).1
  ·refine(congrArg (fun x:Option AM=>(x.bind _).bind _) hd).trans ?_
   refine(congrArg (fun x:Option Bool=>(x.bind fun y=>some (Dw n.toNat,y)).bind _) (GY (n:=n) (lo:=0) (hi:=18446744073709551615) h1 h2)).trans ?_
   exact congrArg (fun x:Option AM=>x.bind fun y=>some ((⟨y,Dw n.toNat⟩:A7),0)) (Ck ⟨15,by decide⟩ (by decide)).1
  ·refine(congrArg (fun x:Option AM=>(x.bind _).bind _) hd).trans ?_
   refine(congrArg (fun x:Option Bool=>(x.bind fun y=>some (Dw n.toNat,y)).bind _) (GY (n:=n) (lo:=0) (hi:=20) h1 h2)).trans ?_
   exact congrArg (fun x:Option AM=>x.bind fun y=>some ((⟨y,Dw n.toNat⟩:A7),0)) (Ck ⟨16,by decide⟩ (by decide)).1
 | @host e h=>
  refine(congrArg (fun x:Option Bool=>x.bind _) (lQ h)).trans ?_
  refine(congrArg (fun x:Option (AM×Bool)=>x.bind _) (XB ⟨9,zK,0,e,zP⟩)).trans ?_
  exact congrArg (fun x:Option AM=>x.bind fun y=>some ((⟨y,Ns e⟩:A7),0)) (Ck ⟨9,by decide⟩ (by decide)).1
 | @pre p h=>
  refine(congrArg (fun x:Option Bool=>x.bind _) (rK h)).trans ?_
  refine(congrArg (fun x:Option (AM×Bool)=>x.bind _) (Tk ⟨12,zK,0,zE,p⟩)).trans ?_
  exact congrArg (fun x:Option AM=>x.bind fun y=>some ((⟨y,Nz p⟩:A7),0)) (Ck ⟨12,by decide⟩ (by decide)).1
theorem GA(w:Fin 17)(hw:1≤w.1){γ:Type}{K:AM→Option γ}:((PW ()).bind fun x6=>(Fo x6.l (w.1:Int)).bind K)=K (QS w.1):=by
 have h:=(Ck w hw).2.2.2.2.2
 obtain⟨g,hg,h⟩:=Option.bind_eq_some_iff.1 h
 rw[hg,Option.bind_some,h,Option.bind_some]
theorem vM{f:Ap}(h:RI f):WK f=some ⟨(Kw f).Key,(Kw f).Value⟩:=by
 cases h with
 | @key w K hw=>
  have he:((Nh K).bind fun x13=>(LC x13).bind fun x14=>some (.inl x14:AM⊕Bm))=some (.inl (JN K.l)):=by
   rw[rQ,Option.bind_some,lT _ (by simp[K.len])];rfl
  rcases hw with rfl|rfl|rfl
  ·refine(congrArg (fun x:Option (AM⊕Bm)=>x.bind _) he).trans ?_
   exact GA (K:=fun y=>some (⟨y,JN K.l⟩:Bm)) ⟨1,by decide⟩ (by decide)
  ·refine(congrArg (fun x:Option (AM⊕Bm)=>x.bind _) he).trans ?_
   exact GA (K:=fun y=>some (⟨y,JN K.l⟩:Bm)) ⟨5,by decide⟩ (by decide)
  ·refine(congrArg (fun x:Option (AM⊕Bm)=>x.bind _) he).trans ?_
   exact GA (K:=fun y=>some (⟨y,JN K.l⟩:Bm)) ⟨8,by decide⟩ (by decide)
 | @num w n hw h1 h2=>
  have he:((FN n).bind fun x27=>some (.inl x27:AM⊕Bm))=some (.inl (Dw n.toNat)):=by rw[Su];rfl
  rcases hw with rfl|rfl|rfl|rfl|rfl|rfl|rfl
  ·refine(congrArg (fun x:Option (AM⊕Bm)=>x.bind _) he).trans ?_
   exact GA (K:=fun y=>some (⟨y,Dw n.toNat⟩:Bm)) ⟨2,by decide⟩ (by decide)
  ·refine(congrArg (fun x:Option (AM⊕Bm)=>x.bind _) he).trans ?_
   exact GA (K:=fun y=>some (⟨y,Dw n.toNat⟩:Bm)) ⟨3,by decide⟩ (by decide)
  ·refine(congrArg (fun x:Option (AM⊕Bm)=>x.bind _) he).trans ?_
   exact GA (K:=fun y=>some (⟨y,Dw n.toNat⟩:Bm)) ⟨10,by decide⟩ (by decide)
  ·refine(congrArg (fun x:Option (AM⊕Bm)=>x.bind _) he).trans ?_
   exact GA (K:=fun y=>some (⟨y,Dw n.toNat⟩:Bm)) ⟨13,by decide⟩ (by decide)
  ·refine(congrArg (fun x:Option (AM⊕Bm)=>x.bind _) he).trans ?_
   exact GA (K:=fun y=>some (⟨y,Dw n.toNat⟩:Bm)) ⟨14,by decide⟩ (by decide)
  ·refine(congrArg (fun x:Option (AM⊕Bm)=>x.bind _) he).trans ?_
   exact GA (K:=fun y=>some (⟨y,Dw n.toNat⟩:Bm)) ⟨15,by decide⟩ (by decide)
  ·refine(congrArg (fun x:Option (AM⊕Bm)=>x.bind _) he).trans ?_
   exact GA (K:=fun y=>some (⟨y,Dw n.toNat⟩:Bm)) ⟨16,by decide⟩ (by decide)
 | @host e h=>
  have he:((Pu e).bind fun x27=>some (.inl x27:AM⊕Bm))=some (.inl (Ns e)):=by rw[vN];rfl
  refine(congrArg (fun x:Option (AM⊕Bm)=>x.bind _) he).trans ?_
  exact GA (K:=fun y=>some (⟨y,Ns e⟩:Bm)) ⟨9,by decide⟩ (by decide)
 | @pre p h=>
  have he:((Pv p).bind fun x27=>some (.inl x27:AM⊕Bm))=some (.inl (Nz p)):=by rw[vO];rfl
  refine(congrArg (fun x:Option (AM⊕Bm)=>x.bind _) he).trans ?_
  exact GA (K:=fun y=>some (⟨y,Nz p⟩:Bm)) ⟨12,by decide⟩ (by decide)
theorem uJ(f:Ap):(rA f).length≤130:=by
 unfold rA
 split
 ·rw[SB,f.Key.len];omega
 ·split
  ·exact sZ _
  ·split
   ·exact tW _
   ·have:=Hl f.N.toNat;omega
theorem valF_ne(f:Ap):(10:UInt8)∉rA f:=by
 unfold rA
 split
 ·exact hexL_ne _
 ·split
  ·exact yI _
  ·split
   ·exact zN _
   ·exact ST _
theorem RI.word{f:Ap}(h:RI f): ∃w:Fin 17,1≤w.1∧f.Word=(w.1:Int):=by
 cases h with
 |key hw=>exact hw.elim (fun e=>⟨1,by decide,e⟩) (fun h=>h.elim (fun e=>⟨5,by decide,e⟩) (fun e=>⟨8,by decide,e⟩))
 |num hw _ _=>exact hw.elim (fun e=>⟨2,by decide,e⟩) (fun h=>h.elim (fun e=>⟨3,by decide,e⟩) (fun h=>h.elim (fun e=>⟨10,by decide,e⟩) (fun h=>h.elim (fun e=>⟨13,by decide,e⟩) (fun h=>h.elim (fun e=>⟨14,by decide,e⟩) (fun h=>h.elim (fun e=>⟨15,by decide,e⟩) (fun e=>⟨16,by decide,e⟩))))))
 |host _=>exact⟨9,by decide,rfl⟩
 |pre _=>exact⟨12,by decide,rfl⟩
theorem Sf{f:Ap}(h:RI f):Aa7 (GC (Kw f)) (Kw f).Key (Kw f).Value:=by
 obtain⟨w,h1,h2⟩:=h.word
 obtain⟨_,n1,n2,n3,n4,_⟩:=Ck w h1
 have hk:(Kw f).Key=QS w.1:=by show QS f.Word.toNat=_;rw[h2];rfl
 have hv:=uJ f
 have hn:=valF_ne f
 have hval:(Kw f).Value=rA f:=rfl
 refine⟨rfl,by rw[hk];exact n2,by rw[hk];exact n1,?_,?_⟩
 ·unfold GC
  rw[hk,hval]
  simp only[List.mem_append,List.mem_cons,not_or]
  exact⟨n3,by decide,hn⟩
 ·unfold GC
  rw[hk,hval]
  simp only[List.length_append,List.length_cons]
  omega
theorem Sk{f:Ap}(h:RI f):Eh f=some (GC (Kw f)++[10]):=by
 have s:=Sf h
 unfold Eh
 have hle:=s.2.2.2.2
 unfold GC at hle
 simp only[List.length_append,List.length_cons]at hle
 rw[vM h,Option.bind_some,cC _ _ (by omega) (by omega),fA s,Option.bind_some]
 dsimp only
 rw[if_pos (by simp only[List.length_append,List.length_cons,List.length_nil];unfold Be;omega)]
 rfl
end Go.Proofs.YtobejhpigbllpaaGreatDoor.Am
