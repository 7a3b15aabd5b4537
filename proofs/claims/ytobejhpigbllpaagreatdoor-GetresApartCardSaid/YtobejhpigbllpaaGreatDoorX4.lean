/-
  What functions compute, and that they do. Printed by mkwalk.py.
  What functions compute, and that they do. Printed by mkwalk.py.
  All walks. Printed by mkwalk.py.
  Plain laws: addresses, prefixes, endpoints: which may be, which is ahead.
  Plain laws: what the functions that split a text come to.
  Plain laws: texts without blanks at their ends, letters made small.
  Plain laws: two loops side by side; a text's lines with and without an end.
  Plain laws: runes of a text; one of two bytes in a text.
  Plain laws: lines of pairs; the law PairlineLines.
  Plain laws: the text of lines; the laws LinesSplit and LinesJoin.
-/
import Derived.Test.YtobejhpigbllpaaGreatDoorX3
section
set_option linter.unusedVariables false
set_option maxRecDepth 100000
set_option maxHeartbeats 4000000
namespace Go.Proofs.YtobejhpigbllpaaGreatDoor.Am
abbrev uX:Nat×CF:=(2000005, .ghost (.cp 5 0))
abbrev LW:Nat×CF:=(2, .cells [(1, .con (.nilf)),(1, .con (.nilf)),(1, .con (.nilf))])
abbrev DD:Nat×CF:=(2000001, .ghost (.cp 1 0))
abbrev fL:Nat×CF:=(3600040, .keep (.fnv (.func GX) [] []))
abbrev fJ:Nat×CF:=(3600041, .keep (.fnv (.func C7) [] []))
abbrev fI:Nat×CF:=(3600042, .keep (.fnv (.func C6) [] []))
abbrev Px:Nat×AJ:=(0, .aggk [3600040,3600041,3600042])
abbrev ZZ:Nat×CF:=(2100002, .ghost (.cp 2 0))
abbrev T8:Nat×CF:=(3600040, .keep (.fnv (.func GY) [] []))
abbrev T7:Nat×CF:=(3600041, .keep (.fnv (.func C9) [] []))
abbrev T6:Nat×CF:=(3600042, .keep (.fnv (.func C8) [] []))
abbrev T5:Nat×CF:=(3600040, .keep (.fnv (.func FX) [] []))
abbrev T4:Nat×CF:=(3600041, .keep (.fnv (.func Cg) [] []))
abbrev T3:Nat×CF:=(3600042, .keep (.fnv (.func Cf) [] []))
abbrev lY:Nat×CF:=(3, .cells [(1, .val T.u64 (65535:UInt64))])
abbrev T2:Nat×CF:=(1002, .cells [(1, .val T.u64 (0:UInt64))])
abbrev FI:Nat×CF:=(3600200, .keep (.cp 3 0))
abbrev Lw:Nat×CF:=(3600201, .keep (.cp 1002 0))
abbrev Lv:Nat×CF:=(3600240, .keep (.cp 1002 0))
abbrev FH:Nat×CF:=(3600241, .keep (.cp 3 0))
abbrev FG:Nat×CF:=(3600280, .keep (.fnv (.func B1) [] [3600200,3600201]))
abbrev FF:Nat×CF:=(3600281, .keep (.fnv (.func Bj) [] [3600240,3600241]))
abbrev FE:Nat×CF:=(3600282, .keep (.fnv (.func Bd) [] []))
abbrev NO:Nat×AJ:=(0, .aggk [3600280,3600281,3600282])
abbrev lX:Nat×CF:=(3, .cells [(1, .val T.u64 (4294967295:UInt64))])
abbrev lW:Nat×CF:=(3, .cells [(1, .val T.u64 (1:UInt64))])
abbrev en_32:Nat×CF:=(1002, .cells [(1, .val T.u64 (1:UInt64))])
abbrev lV:Nat×CF:=(3, .cells [(1, .val T.u64 (18446744073709551615:UInt64))])
abbrev lU:Nat×CF:=(3, .cells [(1, .val T.u64 (20:UInt64))])
abbrev T1:Nat×CF:=(3600040, .keep (.fnv (.func H8) [] []))
abbrev T0:Nat×CF:=(3600041, .keep (.fnv (.func CU) [] []))
abbrev Tz:Nat×CF:=(3600042, .keep (.fnv (.func CT) [] []))
abbrev lT:Nat×AJ:=(12, .aggk [3600040,3600041,3600042])
abbrev en_43:Nat×CF:=(1003, .cells [(1, .kv 3600280),(1, .kv 3600281),(1, .kv 3600282)])
abbrev H3:Nat×CF:=(1002, .cells [(1, .con (.nilf)),(1, .con (.nilf)),(1, .con (.nilf))])
abbrev F0:Nat×CF:=(2000002, .ghost (.cp 2 0))
abbrev Ry:Nat×CF:=(2100002, .ghost (.cp 1002 0))
abbrev Ty:Nat×CF:=(2002, .cells [(1, .val T.u64 (0:UInt64))])
abbrev NN:Nat×CF:=(3600201, .keep (.cp 2002 0))
abbrev NM:Nat×CF:=(3600240, .keep (.cp 2002 0))
abbrev en_51:Nat×CF:=(2002, .cells [(1, .val T.u64 (1:UInt64))])
abbrev lS:Nat×AJ:=(13, .aggk [3600040,3600041,3600042])
theorem JJ: ∀rv ss P H,PR rv ss P H [(1, .con (.nilf)),(1, .con (.nilf)),(1, .con (.nilf))] ([.nilf]++([.nilf]++([.nilf]++([])))):=fun _ _ _ _=>⟨([.nilf]:List AV),([.nilf]++([.nilf]++([])):List AV),rfl,rfl,⟨_,rfl,rfl,rfl,rfl⟩,⟨([.nilf]:List AV),([.nilf]++([]):List AV),rfl,rfl,⟨_,rfl,rfl,rfl,rfl⟩,⟨([.nilf]:List AV),([]:List AV),rfl,rfl,⟨_,rfl,rfl,rfl,rfl⟩,rfl⟩⟩⟩
def EI(a0:AR)(a1:UInt8):Option Int:=some (Kb a0 a1)
theorem Hr:Spec tb BV [A5,T.u8] [T.int .i64] (fun a=>EI a.1 a.2):=kA rfl
def ER(a0:GS UInt8)(a1:GS UInt8):Option Int:=some (Wq a0.l a1.l)
theorem Ke:Spec tb Dh [T.sl T.u8,T.sl T.u8] [T.int .i64] (fun a=>ER a.1 a.2):=Spec.cmp rfl
def Dp(a0:AR)(a1:AR):Option Int:=indexS a0 a1
theorem Ju:Spec tb CH [A5,A5] [T.int .i64] (fun a=>Dp a.1 a.2):=Spec.indexS rfl
noncomputable def K4(a0:Be):Option Bool:=if(decide (20<(a0.Peers.l.length:Int)))=true then some true else (iter (fun(s4:Int)=>if(decide (s4<(a0.Peers.l.length:Int)))=true then (ES a0.Peers.l s4).bind fun x10=>if(decide (80<(x10.Allowed.l.length:Int)))=true then (some true).map fun r=> .inr (.inr r) else some (.inl (IntKind.i64.wrap (s4+1))) else some (.inr (.inl ()))) 0).bind (Sum.elim (fun(p5:Unit)=>some false) some)
noncomputable def WU(a:Ce [Az]):BS tb Lz [Az] [T.b] a:=Ad<|Al (Bt (t:=Az) 1 rfl rfl (Af rfl)) fun _=>Aj (A3 G8)<|Ai<|Ad<|Aj (AB (Af rfl))<|Ap (A1 (t:=Az) (u:=(T.sl Ax)) (Af rfl) rfl rfl Bw rfl rfl) fun x1=>Ag (DL (Af rfl)) fun x2=>Ag (A9 rfl (Af rfl) AY) fun x3=>Ac<|Aa.cond (Af rfl) (Ad<|Aj (A3 G8)<|Ac<|Aa.ret (.one (AE rfl))) (Aa.skip<|Ai<|Ad<|Aj (A3 AY)<|Ac<|AD<|Aa.loop (id:=0) (σ:=Int) (τ:=Unit) (fun s4=>⟨[(1, .cp 1 0),(3, .val (T.int .i64) s4)],[(1, .cells [(35, .val Az a)])]⟩) (fun p5=>⟨[],[]⟩) 0 sB (fun _=>rfl) (fun s4=>Ad<|Ad<|Ab rfl<|Aj (AB (Af rfl))<|Ap (A1 (t:=Az) (u:=(T.sl Ax)) (Af rfl) rfl rfl Bw rfl rfl) fun x6=>Ag (DL (Af rfl)) fun x7=>Ag (A9 rfl (Af rfl) (Af rfl)) fun x8=>Ac<|Aa.cond (Af rfl) (Aa.skip<|Ai<|AD<|Ad<|Aj (AB (Af rfl))<|Ap (A1 (t:=Az) (u:=(T.sl Ax)) (Af rfl) rfl rfl Bw rfl rfl) fun x9=>Ab rfl<|Aa.op (F7 rfl (Af rfl) (Af rfl)) fun x10=>mL (h_fa Ch (Af rfl)) fun x11=>Ap (Is rfl rfl (Af rfl)) fun x12=>Ag (DL (Af rfl)) fun x13=>Ag (A9 rfl (Af rfl) AY) fun x14=>Ac<|Aa.cond (Af rfl) (Ad<|Aj (A3 G8)<|Ac<|By<|Aa.ret (.one (AE rfl))) (Aa.skip<|AN<|Ac<|Ab rfl<|Ag (BJ (I:=(IT.int .i64)) (Af rfl) AY) fun x15=>Ab rfl<|Aa.next x15 sB)) (Bh<|BD () sB)) (fun p5=>Bi<|Ai<|Aj (A3 G8)<|Ac<|Aa.ret (.one (AE rfl))))
theorem Q3:Spec tb FU [Az] [T.b] (fun a=>K4 a):=
 Spec.of eM rfl rfl rfl WU
noncomputable def Om(a0:Int):Option Bool:=(De (decide (0≤a0)) (some (decide (a0≤65535)))).bind fun x3=>some x3
noncomputable def Ze(a:Ce [(T.int .i64)]):BS tb N0 [(T.int .i64)] [T.b] a:=Ad<|Aj (A3 G8)<|Ai<|Ab rfl<|Ag (A9 rfl (Af rfl) AY) fun x1=>Ab rfl<|Aa.and 2 rfl rfl rfl (AU (A3 (Af rfl))<|Bf (A9 rfl (Af rfl) AY) fun x2=>Bl.nil (Af rfl)) fun x3=>Ab rfl<|Ac<|Aa.ret (.one (AE rfl))
theorem Td:Spec tb GD [(T.int .i64)] [T.b] (fun a=>Om a):=
 Spec.of jF rfl rfl rfl Ze
noncomputable def IR(a0:A4):Option Bool:=if(decide (a0.V=6))=true then some true else (iter (fun(s3:Int)=>if(decide (s3<16))=true then (Ft 16 s3).bind fun x6=>(a0.B.l[x6]?).bind fun x7=>let x8:= !decide ((x7.toNat:Int)=((0:UInt8).toNat:Int));if x8=true then (some false).map fun r=> .inr (.inr r) else some (.inl (IntKind.i64.wrap (s3+1))) else some (.inr (.inl ()))) 4).bind (Sum.elim (fun(p4:Unit)=>some (decide (a0.V=4))) some)
noncomputable def WZ(a:Ce [Ak]):BS tb L4 [Ak] [T.b] a:=Ad<|Al (Bt (t:=Ak) 1 rfl rfl (Af rfl)) fun _=>Aj (A3 G8)<|Ai<|Ad<|Aj (AB (Af rfl))<|Ap (A1 (t:=Ak) (u:=(T.int .i64)) (Af rfl) rfl rfl BE rfl rfl) fun x1=>Ag (A9 rfl (Af rfl) AY) fun x2=>Ac<|Aa.cond (Af rfl) (Ad<|Aj (A3 G8)<|Ac<|Aa.ret (.one (AE rfl))) (Aa.skip<|Ai<|Ad<|Aj (A3 AY)<|Ac<|AD<|Aa.loop (id:=0) (σ:=Int) (τ:=Unit) (fun s3=>⟨[(1, .cp 1 0),(3, .val (T.int .i64) s3)],[(1, .cells [(17, .val Ak a)])]⟩) (fun p4=>⟨[(1, .cp 1 0)],[(1, .cells [(17, .val Ak a)])]⟩) 4 sB (fun _=>rfl) (fun s3=>Ad<|Ad<|Ab rfl<|Ag (A9 rfl (Af rfl) AY) fun x5=>Ac<|Aa.cond (Af rfl) (Aa.skip<|Ai<|AD<|Ad<|Ab rfl<|Aj (AB (Af rfl))<|Aa.op (IV (Af rfl) (Af rfl)) fun x6=>Aa.op (Tq BT rfl rfl (Af rfl) rfl rfl) fun x7=>Ag (Ey (I:=IT.u8) rfl (Af rfl) (sW 0 rfl)) fun x8=>Ac<|Aa.cond (Af rfl) (Ad<|Aj (A3 G8)<|Ac<|By<|Aa.ret (.one (AE rfl))) (Aa.skip<|AN<|Ac<|Ab rfl<|Ag (BJ (I:=(IT.int .i64)) (Af rfl) AY) fun x9=>Ab rfl<|Aa.next x9 sB)) (Bh<|BD () sB)) (fun p4=>Bi<|Ai<|Aj (AB (Af rfl))<|Ap (A1 (t:=Ak) (u:=(T.int .i64)) (Af rfl) rfl rfl BE rfl rfl) fun x10=>Ag (A9 rfl (Af rfl) AY) fun x11=>Ab rfl<|Ac<|Aa.ret (.one (AE rfl))))
theorem Kd:Spec tb Ec [Ak] [T.b] (fun a=>IR a):=
 Spec.of eR rfl rfl rfl WZ
noncomputable def Mm(a0:AA):Option Bool:=(IR a0.A).bind fun x2=>(De x2 (some (decide (1≤a0.Port)))).bind fun x5=>(De x5 (some (decide (a0.Port≤65535)))).bind fun x8=>some x8
noncomputable def WV(a:Ce [Aq]):BS tb L0 [Aq] [T.b] a:=Ad<|Al (Bt (t:=Aq) 1 rfl rfl (Af rfl)) fun _=>Aj (A3 G8)<|Ai<|Aj (AB (Af rfl))<|Ap (A1 (t:=Aq) (u:=Ak) (Af rfl) rfl rfl F6 rfl rfl) fun x1=>Aa.op (AF Kd (.one (Af rfl))) fun x2=>Ab rfl<|Aa.and 3 rfl rfl rfl (AU (AB (Af rfl))<|Bk (A1 (t:=Aq) (u:=(T.int .i64)) (Af rfl) rfl rfl Ea rfl rfl) fun x3=>Bf (A9 rfl (Af rfl) AY) fun x4=>Bl.nil (Af rfl)) fun x5=>Ab rfl<|Aa.and 3 rfl rfl rfl (AU (AB (Af rfl))<|Bk (A1 (t:=Aq) (u:=(T.int .i64)) (Af rfl) rfl rfl Ea rfl rfl) fun x6=>Bf (A9 rfl (Af rfl) AY) fun x7=>Bl.nil (Af rfl)) fun x8=>Ab rfl<|Ac<|Aa.ret (.one (AE rfl))
theorem YS:Spec tb GQ [Aq] [T.b] (fun a=>Mm a):=
 Spec.of eN rfl rfl rfl WV
noncomputable def Mo(a0:A4):Option Int:=(IR a0).bind fun x2=>if(!x2)=true then some 0 else if(decide (a0.V=4))=true then some 32 else some 128
noncomputable def WY(a:Ce [Ak]):BS tb L3 [Ak] [(T.int .i64)] a:=Ad<|Al (Bt (t:=Ak) 1 rfl rfl (Af rfl)) fun _=>Aj (A3 AY)<|Ai<|Ad<|Ap (A1 (t:=Ak) (u:=Ak) (Af rfl) rfl rfl (Ay _) rfl rfl) fun x1=>Aa.op (AF Kd (.one (Af rfl))) fun x2=>Ag (EJ (Af rfl)) fun x3=>Ac<|Aa.cond (Af rfl) (Ad<|Aj (A3 AY)<|Ac<|Aa.ret (.one (AE rfl))) (Aa.skip<|Ai<|Ad<|Aj (AB (Af rfl))<|Ap (A1 (t:=Ak) (u:=(T.int .i64)) (Af rfl) rfl rfl BE rfl rfl) fun x4=>Ag (A9 rfl (Af rfl) AY) fun x5=>Ac<|Aa.cond (Af rfl) (Ad<|Aj (A3 AY)<|Ac<|Aa.ret (.one (AE rfl))) (Aa.skip<|Ai<|Aj (A3 AY)<|Ac<|Aa.ret (.one (AE rfl))))
theorem Q4:Spec tb FV [Ak] [(T.int .i64)] (fun a=>Mo a):=
 Spec.of eQ rfl rfl rfl WY
noncomputable def ON(a0:A4)(a1:Int):Option Int:=(if 8=0 then none else some (IntKind.i64.wrap (Int.tdiv a1 8))).bind fun x1=>(Ft 16 x1).bind fun x2=>(a0.B.l[x2]?).bind fun x3=>(iter (fun(s5:(Int×Int))=>(if 8=0 then none else some (Int.tmod a1 8)).bind fun x7=>if(decide (x7<s5.2))=true then (if 2=0 then none else some (IntKind.i64.wrap (Int.tdiv s5.1 2))).bind fun x9=>some (.inl (x9,IntKind.i64.wrap (s5.2-1))) else some (.inr (.inl s5.1))) (IntKind.i64.wrap (x3.toNat:Int),7)).bind (Sum.elim (fun(p6:Int)=>(if 2=0 then none else some (Int.tmod p6 2)).bind fun x11=>some x11) some)
noncomputable def WX(a:Ce [Ak,(T.int .i64)]):BS tb L2 [Ak,(T.int .i64)] [(T.int .i64)] a:=Ad<|Al (Bt (t:=Ak) 2 rfl rfl (Af rfl)) fun _=>Aj (A3 AY)<|Ai<|Ab rfl<|Aa.op (M0 (I:=(IT.int .i64)) (Af rfl) AY) fun x1=>Aj (AB (Af rfl))<|Aa.op (IV (Af rfl) (Af rfl)) fun x2=>Aa.op (Tq BT rfl rfl (Af rfl) rfl rfl) fun x3=>Ag (HZ (I:=IT.u8) (J:=(IT.int .i64)) rfl (Af rfl)) fun x4=>Ab rfl<|Ai<|Ad<|Aj (A3 AY)<|Ac<|AD<|Aa.loop (id:=0) (σ:=(Int×Int)) (τ:=Int) (fun s5=>⟨[(1, .val (T.int .i64) a.2),(5, .val (T.int .i64) s5.1),(6, .val (T.int .i64) s5.2)],[]⟩) (fun p6=>⟨[(5, .val (T.int .i64) p6)],[]⟩) (x4,7) sB (fun _=>rfl) (fun s5=>Ad<|Ad<|Ab rfl<|Ab rfl<|Aa.op (uB (Af rfl) AY) fun x7=>Ag (A9 rfl (Af rfl) (Af rfl)) fun x8=>Ac<|Aa.cond (Af rfl) (Aa.skip<|Ai<|AD<|Ab rfl<|Aa.op (M0 (I:=(IT.int .i64)) (Af rfl) AY) fun x9=>Ab rfl<|AN<|Ac<|Ab rfl<|Ag (Ei (I:=(IT.int .i64)) (Af rfl) AY) fun x10=>Ab rfl<|Aa.next (x9,x10) sB) (Bh<|BD s5.1 sB)) (fun p6=>Bi<|Ai<|Ab rfl<|Aa.op (uB (Af rfl) AY) fun x11=>Ab rfl<|Ac<|Aa.ret (.one (AE rfl)))
theorem YU:Spec tb GT [Ak,(T.int .i64)] [(T.int .i64)] (fun a=>ON a.1 a.2):=
 Spec.of eP rfl rfl rfl WX
noncomputable def QS(a0:A4)(a1:Int):Option A4:=(IR a0).bind fun x3=>if(!x3)=true then some (⟨0,(A2 16 T.u8).z⟩:A4) else (Mo a0).bind fun x12=>(iter (fun(s13:(Int×A4))=>(De (decide (s13.1<x12)) (some (decide (s13.1<a1)))).bind fun x17=>if x17=true then (ON a0 s13.1).bind fun x19=>if(decide (x19=1))=true then (iter (fun(s21:(Int×Int))=>(if 8=0 then none else some (Int.tmod s13.1 8)).bind fun x23=>if(decide (s21.2<x23))=true then (if 2=0 then none else some (IntKind.i64.wrap (Int.tdiv s21.1 2))).bind fun x25=>some (.inl (x25,IntKind.i64.wrap (s21.2+1))) else some (.inr (.inl s21.1))) (128,0)).bind (Sum.elim (fun(p22:Int)=>(if 8=0 then none else some (IntKind.i64.wrap (Int.tdiv s13.1 8))).bind fun x27=>(if 8=0 then none else some (IntKind.i64.wrap (Int.tdiv s13.1 8))).bind fun x28=>(Ft 16 x28).bind fun x29=>(s13.2.B.l[x29]?).bind fun x30=>let x32:=Ps ((x30.toNat:Int)+((Ps p22).toNat:Int));(Ft 16 x27).bind fun x33=>(if x33<16 then some ({s13.2 with B:=s13.2.B.set x33 x32})else none).bind fun x34=>some (.inl (IntKind.i64.wrap (s13.1+1),x34))) some) else some (.inl (IntKind.i64.wrap (s13.1+1),s13.2)) else some (.inr (.inl s13.2))) (0,(⟨a0.V,(A2 16 T.u8).z⟩:A4))).bind (Sum.elim (fun(p14:A4)=>some p14) some)
noncomputable def Zi(a:Ce [Ak,(T.int .i64)]):BS tb N4 [Ak,(T.int .i64)] [Ak] a:=Ad<|Al (Bt (t:=Ak) 2 rfl rfl (Af rfl)) fun _=>Al (Cn (t:=Ak) 4 rfl rfl) fun x1=>Ai<|Ad<|Ap (A1 (t:=Ak) (u:=Ak) (Af rfl) rfl rfl (Ay _) rfl rfl) fun x2=>Aa.op (AF Kd (.one (Af rfl))) fun x3=>Ag (EJ (Af rfl)) fun x4=>Ac<|Aa.cond (Af rfl) (Ad<|Ag (D4 rfl rfl (.nil _)) fun x5=>Al (Dg (Af rfl) (Af rfl) rfl rfl (Ay _) rfl) fun x6=>Ac<|Aa.ret (.one (Hk rfl rfl rfl (Ay _) rfl rfl))) (Aa.skip<|Ai<|Aj (AB (Af rfl))<|Ap (A1 (t:=Ak) (u:=(T.int .i64)) (Af rfl) rfl rfl BE rfl rfl) fun x7=>Ag (D4 rfl rfl (.cons BE rfl (Af rfl)<| .nil _)) fun x8=>Al (Cn (t:=Ak) 5 rfl rfl) fun x9=>Al (Dg (Af rfl) (Af rfl) rfl rfl (Ay _) rfl) fun x10=>Ai<|Ap (A1 (t:=Ak) (u:=Ak) (Af rfl) rfl rfl (Ay _) rfl rfl) fun x11=>Aa.op (AF Q4 (.one (Af rfl))) fun x12=>Ab rfl<|Ai<|Ad<|Aj (A3 AY)<|Ac<|AD<|Aa.loop (id:=0) (σ:=(Int×A4)) (τ:=A4) (fun s13=>⟨[(1, .val (T.int .i64) a.2),(2, .cp 2 0),(4, .cp 4 0),(5, .cp 5 0),(6, .val (T.int .i64) x12),(7, .val (T.int .i64) s13.1)],[(2, .cells [(17, .val Ak a.1)]),(4, .cells [(17, .val Ak x1)]),(5, .cells [(17, .val Ak s13.2)])]⟩) (fun p14=>⟨[(4, .cp 4 0),(5, .cp 5 0)],[(4, .cells [(17, .val Ak x1)]),(5, .cells [(17, .val Ak p14)])]⟩) (0,x10) sB (fun _=>rfl) (fun s13=>Ad<|Ad<|Ab rfl<|Ab rfl<|Ag (A9 rfl (Af rfl) (Af rfl)) fun x15=>Ab rfl<|Aa.and 3 rfl rfl rfl (AU (A3 (Af rfl))<|AU (A3 (Af rfl))<|Bf (A9 rfl (Af rfl) (Af rfl)) fun x16=>Bl.nil (Af rfl)) fun x17=>Ac<|Aa.cond (Af rfl) (Aa.skip<|Ai<|AD<|Ad<|Ap (A1 (t:=Ak) (u:=Ak) (Af rfl) rfl rfl (Ay _) rfl rfl) fun x18=>
 Ab rfl<|Aa.op (AF YU (.cons (Af rfl)<| .one (Af rfl))) fun x19=>Ag (A9 rfl (Af rfl) AY) fun x20=>Ac<|Aa.cond (Af rfl) (Ad<|Aj (A3 AY)<|Ai<|Ad<|Aj (A3 AY)<|Ac<|AD<|Aa.loop (id:=2) (σ:=(Int×Int)) (τ:=Int) (fun s21=>⟨[(1, .val (T.int .i64) a.2),(2, .cp 2 0),(4, .cp 4 0),(5, .cp 5 0),(6, .val (T.int .i64) x12),(7, .val (T.int .i64) s13.1),(8, .val (T.int .i64) s21.1),(9, .val (T.int .i64) s21.2)],[(2, .cells [(17, .val Ak a.1)]),(4, .cells [(17, .val Ak x1)]),(5, .cells [(17, .val Ak s13.2)])]⟩) (fun p22=>⟨[(1, .val (T.int .i64) a.2),(2, .cp 2 0),(4, .cp 4 0),(5, .cp 5 0),(6, .val (T.int .i64) x12),(7, .val (T.int .i64) s13.1),(8, .val (T.int .i64) p22)],[(2, .cells [(17, .val Ak a.1)]),(4, .cells [(17, .val Ak x1)]),(5, .cells [(17, .val Ak s13.2)])]⟩) (128,0) sB (fun _=>rfl) (fun s21=>Ad<|Ad<|Ab rfl<|Ab rfl<|Aa.op (uB (Af rfl) AY) fun x23=>Ag (A9 rfl (Af rfl) (Af rfl)) fun x24=>Ac<|Aa.cond (Af rfl) (Aa.skip<|Ai<|AD<|Ab rfl<|Aa.op (M0 (I:=(IT.int .i64)) (Af rfl) AY) fun x25=>Ab rfl<|AN<|Ac<|Ab rfl<|Ag (BJ (I:=(IT.int .i64)) (Af rfl) AY) fun x26=>Ab rfl<|Aa.next (x25,x26) sB) (Bh<|BD s21.1 sB)) (fun p22=>Bi<|Ac<|Ab rfl<|Aa.op (M0 (I:=(IT.int .i64)) (Af rfl) AY) fun x27=>Ab rfl<|Aa.op (M0 (I:=(IT.int .i64)) (Af rfl) AY) fun x28=>Aj (AB (Af rfl))<|Aa.op (IV (Af rfl) (Af rfl)) fun x29=>Aa.op (Tq BT rfl rfl (Af rfl) rfl rfl) fun x30=>Ab rfl<|Ag (HZ (I:=(IT.int .i64)) (J:=IT.u8) rfl (Af rfl)) fun x31=>Ag (BJ (I:=IT.u8) (Af rfl) (Af rfl)) fun x32=>Aj (AB (Af rfl))<|Aa.op (IV (Af rfl) (Af rfl)) fun x33=>
 Cm (Ii (s:=Ak) BT rfl (Af rfl) (Af rfl) rfl rfl) fun x34=>AN<|Ac<|Ab rfl<|Ag (BJ (I:=(IT.int .i64)) (Af rfl) AY) fun x35=>Ab rfl<|Aa.next (x35,x34) sB)) (Aa.skip<|AN<|Ac<|Ab rfl<|Ag (BJ (I:=(IT.int .i64)) (Af rfl) AY) fun x36=>Ab rfl<|Aa.next (x36,s13.2) sB)) (Bh<|BD s13.2 sB)) (fun p14=>Bi<|Ai<|Ap (A1 (t:=Ak) (u:=Ak) (Af rfl) rfl rfl (Ay _) rfl rfl) fun x37=>Al (Dg (Af rfl) (Af rfl) rfl rfl (Ay _) rfl) fun x38=>Ac<|Aa.ret (.one (Hk rfl rfl rfl (Ay _) rfl rfl))))
theorem bJ:Spec tb Id [Ak,(T.int .i64)] [Ak] (fun a=>QS a.1 a.2):=
 Spec.of jJ rfl rfl rfl Zi
noncomputable def K5(a0:Ao):Option Bool:=(IR a0.A).bind fun x2=>(HO (!x2) (some (decide (a0.Bits<0)))).bind fun x6=>(HO x6 ((Mo a0.A).bind fun x9=>some (decide (x9<a0.Bits)))).bind fun x11=>if x11=true then some false else (QS a0.A a0.Bits).bind fun x15=>some (G7 E1 a0.A x15)
noncomputable def WW(a:Ce [Ah]):BS tb L1 [Ah] [T.b] a:=Ad<|Al (Bt (t:=Ah) 1 rfl rfl (Af rfl)) fun _=>Aj (A3 G8)<|Ai<|Ad<|Aj (AB (Af rfl))<|Ap (A1 (t:=Ah) (u:=Ak) (Af rfl) rfl rfl BC rfl rfl) fun x1=>Aa.op (AF Kd (.one (Af rfl))) fun x2=>Ag (EJ (Af rfl)) fun x3=>Ab rfl<|Aa.or 3 rfl rfl rfl (AU (AB (Af rfl))<|Bk (A1 (t:=Ah) (u:=(T.int .i64)) (Af rfl) rfl rfl BX rfl rfl) fun x4=>Bf (A9 rfl (Af rfl) AY) fun x5=>Bl.nil (Af rfl)) fun x6=>Ab rfl<|Aa.or 6 rfl rfl rfl (AU (AB (Af rfl))<|Bk (A1 (t:=Ah) (u:=(T.int .i64)) (Af rfl) rfl rfl BX rfl rfl) fun x7=>AU (AB (Af rfl))<|Bk (A1 (t:=Ah) (u:=Ak) (Af rfl) rfl rfl BC rfl rfl) fun x8=>Bl.op (AF Q4 (.one (Af rfl))) fun x9=>Bf (A9 rfl (Af rfl) (Af rfl)) fun x10=>Bl.nil (Af rfl)) fun x11=>Ac<|Aa.cond (Af rfl) (Ad<|Aj (A3 G8)<|Ac<|Aa.ret (.one (AE rfl))) (Aa.skip<|Ai<|Aj (AB (Af rfl))<|Ap (A1 (t:=Ah) (u:=Ak) (Af rfl) rfl rfl BC rfl rfl) fun x12=>Aj (AB (Af rfl))<|Ap (A1 (t:=Ah) (u:=Ak) (Af rfl) rfl rfl BC rfl rfl) fun x13=>Aj (AB (Af rfl))<|Ap (A1 (t:=Ah) (u:=(T.int .i64)) (Af rfl) rfl rfl BX rfl rfl) fun x14=>Aa.op (AF bJ (.cons (Af rfl)<| .one (Af rfl))) fun x15=>Ag (M1 E1 rfl rfl (Af rfl) (Af rfl)) fun x16=>Ab rfl<|Ac<|Aa.ret (.one (AE rfl)))
theorem YT:Spec tb GR [Ah] [T.b] (fun a=>K5 a):=
 Spec.of eO rfl rfl rfl WW
noncomputable def QT(a0:A4)(a1:A4):Option Bool:=if(!decide (a0.V=a1.V))=true then some (decide (a0.V<a1.V)) else (iter (fun(s7:Int)=>if(decide (s7<16))=true then (Ft 16 s7).bind fun x10=>(a0.B.l[x10]?).bind fun x11=>(Ft 16 s7).bind fun x12=>(a1.B.l[x12]?).bind fun x13=>if(!decide ((x11.toNat:Int)=(x13.toNat:Int)))=true then (Ft 16 s7).bind fun x15=>(a0.B.l[x15]?).bind fun x16=>(Ft 16 s7).bind fun x17=>(a1.B.l[x17]?).bind fun x18=>(some (decide ((x16.toNat:Int)<(x18.toNat:Int)))).map fun r=> .inr (.inr r) else some (.inl (IntKind.i64.wrap (s7+1))) else some (.inr (.inl ()))) 0).bind (Sum.elim (fun(p8:Unit)=>some false) some)
noncomputable def Zj(a:Ce [Ak,Ak]):BS tb N5 [Ak,Ak] [T.b] a:=Ad<|Al (Bt (t:=Ak) 2 rfl rfl (Af rfl)) fun _=>Al (Bt (t:=Ak) 3 rfl rfl (Af rfl)) fun _=>Aj (A3 G8)<|Ai<|Ad<|Aj (AB (Af rfl))<|Ap (A1 (t:=Ak) (u:=(T.int .i64)) (Af rfl) rfl rfl BE rfl rfl) fun x1=>Aj (AB (Af rfl))<|Ap (A1 (t:=Ak) (u:=(T.int .i64)) (Af rfl) rfl rfl BE rfl rfl) fun x2=>Ag (A9 rfl (Af rfl) (Af rfl)) fun x3=>Ac<|Aa.cond (Af rfl) (Ad<|Aj (AB (Af rfl))<|Ap (A1 (t:=Ak) (u:=(T.int .i64)) (Af rfl) rfl rfl BE rfl rfl) fun x4=>Aj (AB (Af rfl))<|Ap (A1 (t:=Ak) (u:=(T.int .i64)) (Af rfl) rfl rfl BE rfl rfl) fun x5=>Ag (A9 rfl (Af rfl) (Af rfl)) fun x6=>Ab rfl<|Ac<|Aa.ret (.one (AE rfl))) (Aa.skip<|Ai<|Ad<|Aj (A3 AY)<|Ac<|AD<|Aa.loop (id:=0) (σ:=Int) (τ:=Unit) (fun s7=>⟨[(2, .cp 2 0),(3, .cp 3 0),(5, .val (T.int .i64) s7)],[(2, .cells [(17, .val Ak a.1)]),(3, .cells [(17, .val Ak a.2)])]⟩) (fun p8=>⟨[],[]⟩) 0 sB (fun _=>rfl) (fun s7=>Ad<|Ad<|Ab rfl<|Ag (A9 rfl (Af rfl) AY) fun x9=>Ac<|Aa.cond (Af rfl) (Aa.skip<|Ai<|AD<|Ad<|Ab rfl<|Aj (AB (Af rfl))<|Aa.op (IV (Af rfl) (Af rfl)) fun x10=>Aa.op (Tq BT rfl rfl (Af rfl) rfl rfl) fun x11=>Ab rfl<|Aj (AB (Af rfl))<|Aa.op (IV (Af rfl) (Af rfl)) fun x12=>Aa.op (Tq BT rfl rfl (Af rfl) rfl rfl) fun x13=>Ag (Ey (I:=IT.u8) rfl (Af rfl) (Af rfl)) fun x14=>Ac<|Aa.cond (Af rfl) (Ad<|Ab rfl<|Aj (AB (Af rfl))<|Aa.op (IV (Af rfl) (Af rfl)) fun x15=>Aa.op (Tq BT rfl rfl (Af rfl) rfl rfl) fun x16=>Ab rfl<|Aj (AB (Af rfl))<|Aa.op (IV (Af rfl) (Af rfl)) fun x17=>Aa.op (Tq BT rfl rfl (Af rfl) rfl rfl) fun x18=>
 Ag (Ey (I:=IT.u8) rfl (Af rfl) (Af rfl)) fun x19=>Ab rfl<|Ac<|By<|Aa.ret (.one (AE rfl))) (Aa.skip<|AN<|Ac<|Ab rfl<|Ag (BJ (I:=(IT.int .i64)) (Af rfl) AY) fun x20=>Ab rfl<|Aa.next x20 sB)) (Bh<|BD () sB)) (fun p8=>Bi<|Ai<|Aj (A3 G8)<|Ac<|Aa.ret (.one (AE rfl))))
theorem bK:Spec tb Ie [Ak,Ak] [T.b] (fun a=>QT a.1 a.2):=
 Spec.of jK rfl rfl rfl Zj
noncomputable def Mn(a0:Ao)(a1:Ao):Option Bool:=if(!(G7 E1 a0.A a1.A))=true then (QT a0.A a1.A).bind fun x6=>some x6 else some (decide (a0.Bits<a1.Bits))
noncomputable def Zh(a:Ce [Ah,Ah]):BS tb N3 [Ah,Ah] [T.b] a:=Ad<|Al (Bt (t:=Ah) 2 rfl rfl (Af rfl)) fun _=>Al (Bt (t:=Ah) 3 rfl rfl (Af rfl)) fun _=>Aj (A3 G8)<|Ai<|Ad<|Aj (AB (Af rfl))<|Ap (A1 (t:=Ah) (u:=Ak) (Af rfl) rfl rfl BC rfl rfl) fun x1=>Aj (AB (Af rfl))<|Ap (A1 (t:=Ah) (u:=Ak) (Af rfl) rfl rfl BC rfl rfl) fun x2=>Ag (M1 E1 rfl rfl (Af rfl) (Af rfl)) fun x3=>Ac<|Aa.cond (Af rfl) (Ad<|Aj (AB (Af rfl))<|Ap (A1 (t:=Ah) (u:=Ak) (Af rfl) rfl rfl BC rfl rfl) fun x4=>Aj (AB (Af rfl))<|Ap (A1 (t:=Ah) (u:=Ak) (Af rfl) rfl rfl BC rfl rfl) fun x5=>Aa.op (AF bK (.cons (Af rfl)<| .one (Af rfl))) fun x6=>Ab rfl<|Ac<|Aa.ret (.one (AE rfl))) (Aa.skip<|Ai<|Aj (AB (Af rfl))<|Ap (A1 (t:=Ah) (u:=(T.int .i64)) (Af rfl) rfl rfl BX rfl rfl) fun x7=>Aj (AB (Af rfl))<|Ap (A1 (t:=Ah) (u:=(T.int .i64)) (Af rfl) rfl rfl BX rfl rfl) fun x8=>Ag (A9 rfl (Af rfl) (Af rfl)) fun x9=>Ab rfl<|Ac<|Aa.ret (.one (AE rfl)))
theorem bI:Spec tb Ic [Ah,Ah] [T.b] (fun a=>Mn a.1 a.2):=
 Spec.of jI rfl rfl rfl Zh
noncomputable def Ml(a0:Be):Option Bool:=(Om a0.Port).bind fun x2=>(HO (!x2) (some (decide (16<(a0.Peers.l.length:Int))))).bind fun x7=>if x7=true then some false else (iter (fun(s8:(Int×(GS Ao)))=>if(decide (s8.1<(a0.Peers.l.length:Int)))=true then (ES a0.Peers.l s8.1).bind fun x14=>let x19:=(⟨[0,0,0,0,0,0,0,0,0,0,0,0,0,0,0,0,0,0,0,0,0,0,0,0,0,0,0,0,0,0,0,0],rfl⟩:(Ar UInt8 32));(HO (G7 (DT 32 BZ.u8) x14.Key x19) ((Om x14.Keep).bind fun x22=>some (!x22))).bind fun x24=>(HO x24 (let x27:= !(G7 Du x14.End (⟨Ak.z,0⟩:AA));(De x27 ((Mm x14.End).bind fun x29=>some (!x29))).bind fun x31=>some x31)).bind fun x32=>if x32=true then (some false).map fun r=> .inr (.inr r) else (iter (fun(s33:Int)=>if(decide (s33<s8.1))=true then (ES a0.Peers.l s33).bind fun x37=>if(G7 (DT 32 BZ.u8) x37.Key x14.Key)=true then ((some false).map fun r=> .inr (.inr r)).map fun r=> .inr (.inr r) else some (.inl (IntKind.i64.wrap (s33+1))) else some (.inr (.inl ()))) 0).bind (Sum.elim (fun(p34:Unit)=>(iter (fun(s43:(Int×(GS Ao)))=>if(decide (s43.1<(x14.Allowed.l.length:Int)))=true then (ES x14.Allowed.l s43.1).bind fun x49=>(K5 x49).bind fun x54=>(HO (!x54) ((De (decide (0<s43.1)) ((ES x14.Allowed.l (IntKind.i64.wrap (s43.1-1))).bind fun x59=>(Mn x59 x49).bind fun x62=>some (!x62))).bind fun x64=>some x64)).bind fun x65=>if x65=true then ((some false).map fun r=> .inr (.inr r)).map fun r=> .inr (.inr r) else (iter (fun(s66:Int)=>if(decide (s66<(s43.2.l.length:Int)))=true then (Ft s43.2.l.length s66).bind fun x70=>
 (s43.2.l[x70]?.map fun x=>x).bind fun x71=>if(G7 Db x71 x49)=true then (((some false).map fun r=> .inr (.inr r)).map fun r=> .inr (.inr r)).map fun r=> .inr (.inr r) else some (.inl (IntKind.i64.wrap (s66+1))) else some (.inr (.inl ()))) 0).bind (Sum.elim (fun(p67:Unit)=>(W7 32 s43.2 [x49]).bind fun x77=>some (.inl (IntKind.i64.wrap (s43.1+1),x77))) some) else some (.inr (.inl s43.2))) (0,s8.2)).bind (Sum.elim (fun(p44:(GS Ao))=>some (.inl (IntKind.i64.wrap (s8.1+1),p44))) some)) some) else some (.inr (.inl s8.2))) (0, .nil)).bind (Sum.elim (fun(p9:(GS Ao))=>some (decide ((p9.l.length:Int)≤64))) some)
noncomputable def WT(a:Ce [Az]):BS tb Ly [Az] [T.b] a:=Ad<|Al (Bt (t:=Az) 1 rfl rfl (Af rfl)) fun _=>Aj (A3 G8)<|Ai<|Ad<|Aj (AB (Af rfl))<|Ap (A1 (t:=Az) (u:=(T.int .i64)) (Af rfl) rfl rfl Gm rfl rfl) fun x1=>Aa.op (AF Td (.one (Af rfl))) fun x2=>Ag (EJ (Af rfl)) fun x3=>Ab rfl<|Aa.or 4 rfl rfl rfl (AU (AB (Af rfl))<|Bk (A1 (t:=Az) (u:=(T.sl Ax)) (Af rfl) rfl rfl Bw rfl rfl) fun x4=>Bf (DL (Af rfl)) fun x5=>Bf (A9 rfl (Af rfl) AY) fun x6=>Bl.nil (Af rfl)) fun x7=>Ac<|Aa.cond (Af rfl) (Ad<|Aj (A3 G8)<|Ac<|Aa.ret (.one (AE rfl))) (Aa.skip<|Ai<|Aj (A3 (MV (t:=Ah)))<|Aa.turn (born (n:=3) (j:=1003) rfl rfl)<|Ai<|Ad<|Aj (A3 AY)<|Ac<|AD<|Aa.loop (id:=0) (σ:=(Int×(GS Ao))) (τ:=(GS Ao)) (fun s8=>⟨[(1, .cp 1 0),(3, .own 1003),(4, .val (T.int .i64) s8.1)],[(1, .cells [(35, .val Az a)]),(1003, .row Ah s8.2)]⟩) (fun p9=>⟨[(3, .own 1003)],[(1003, .row Ah p9)]⟩) (0, .nil) sB (fun _=>rfl) (fun s8=>Ad<|Ad<|Ab rfl<|Aj (AB (Af rfl))<|Ap (A1 (t:=Az) (u:=(T.sl Ax)) (Af rfl) rfl rfl Bw rfl rfl) fun x10=>Ag (DL (Af rfl)) fun x11=>Ag (A9 rfl (Af rfl) (Af rfl)) fun x12=>Ac<|Aa.cond (Af rfl) (Aa.skip<|Ai<|AD<|Ad<|Aj (AB (Af rfl))<|Ap (A1 (t:=Az) (u:=(T.sl Ax)) (Af rfl) rfl rfl Bw rfl rfl) fun x13=>Ab rfl<|Aa.op (F7 rfl (Af rfl) (Af rfl)) fun x14=>Ap (Is rfl rfl (Af rfl)) fun x15=>Al (Cn (t:=Ax) 5 rfl rfl) fun x16=>Al (Dg (Af rfl) (Af rfl) rfl rfl (Ay _) rfl) fun x17=>Ai<|Ad<|Aj (AB (Af rfl))<|Ap (A1 (t:=Ax) (u:=(A2 32 T.u8)) (Af rfl) rfl rfl DR rfl rfl) fun x18=>Ap (iX (t:=T.u8) (⟨[0,0,0,0,0,0,0,0,0,0,0,0,0,0,0,0,0,0,0,0,0,0,0,0,0,0,0,0,0,0,0,0],rfl⟩:(Ar UInt8 32)) rfl (.nil _)) fun x19=>
 Ag (M1 (DT 32 BZ.u8) rfl rfl (Af rfl) (Af rfl)) fun x20=>Ab rfl<|Aa.or 4 rfl rfl rfl (AU (AB (Af rfl))<|Bk (A1 (t:=Ax) (u:=(T.int .i64)) (Af rfl) rfl rfl Gk rfl rfl) fun x21=>Bl.op (AF Td (.one (Af rfl))) fun x22=>Bf (EJ (Af rfl)) fun x23=>Bl.nil (Af rfl)) fun x24=>Ab rfl<|Aa.or 10 rfl rfl rfl (AU (AB (Af rfl))<|Bk (A1 (t:=Ax) (u:=Aq) (Af rfl) rfl rfl DS rfl rfl) fun x25=>Bf (D4 rfl rfl (.nil _)) fun x26=>Bf (M1 Du rfl rfl (Af rfl) (Af rfl)) fun x27=>AU (A3 (Af rfl))<|Bl.and 4 rfl rfl rfl rfl rfl (AU (AB (Af rfl))<|Bk (A1 (t:=Ax) (u:=Aq) (Af rfl) rfl rfl DS rfl rfl) fun x28=>Bl.op (AF YS (.one (Af rfl))) fun x29=>Bf (EJ (Af rfl)) fun x30=>Bl.nil (Af rfl)) fun x31=>Bl.nil (Af rfl)) fun x32=>Ac<|Aa.cond (Af rfl) (Ad<|Aj (A3 G8)<|Ac<|By<|Aa.ret (.one (AE rfl))) (Aa.skip<|Ai<|Ad<|Aj (A3 AY)<|Ac<|AD<|Aa.loop (id:=2) (σ:=Int) (τ:=Unit) (fun s33=>⟨[(1, .cp 1 0),(3, .own 1003),(4, .val (T.int .i64) s8.1),(5, .cp 5 0),(6, .val (T.int .i64) s33)],[(1, .cells [(35, .val Az a)]),(5, .cells [(86, .val Ax x17)]),(1003, .row Ah s8.2)]⟩) (fun p34=>⟨[(1, .cp 1 0),(3, .own 1003),(4, .val (T.int .i64) s8.1),(5, .cp 5 0)],[(1, .cells [(35, .val Az a)]),(5, .cells [(86, .val Ax x17)]),(1003, .row Ah s8.2)]⟩) 0 sB (fun _=>rfl) (fun s33=>Ad<|Ad<|Ab rfl<|Ab rfl<|Ag (A9 rfl (Af rfl) (Af rfl)) fun x35=>Ac<|Aa.cond (Af rfl) (Aa.skip<|Ai<|AD<|Ad<|Aj (AB (Af rfl))<|Ap (A1 (t:=Az) (u:=(T.sl Ax)) (Af rfl) rfl rfl Bw rfl rfl) fun x36=>Ab rfl<|Aa.op (F7 rfl (Af rfl) (Af rfl)) fun x37=>mL (h_fa DR (Af rfl)) fun x38=>
 Ap (Is rfl rfl (Af rfl)) fun x39=>Aj (AB (Af rfl))<|Ap (A1 (t:=Ax) (u:=(A2 32 T.u8)) (Af rfl) rfl rfl DR rfl rfl) fun x40=>Ag (M1 (DT 32 BZ.u8) rfl rfl (Af rfl) (Af rfl)) fun x41=>Ac<|Aa.cond (Af rfl) (Ad<|Aj (A3 G8)<|Ac<|By<|By<|Aa.ret (.one (AE rfl))) (Aa.skip<|AN<|Ac<|Ab rfl<|Ag (BJ (I:=(IT.int .i64)) (Af rfl) AY) fun x42=>Ab rfl<|Aa.next x42 sB)) (Bh<|BD () sB)) (fun p34=>Bi<|Ai<|Aj (A3 AY)<|Ac<|AD<|Aa.loop (id:=4) (σ:=(Int×(GS Ao))) (τ:=(GS Ao)) (fun s43=>⟨[(1, .cp 1 0),(3, .own 1003),(4, .val (T.int .i64) s8.1),(5, .cp 5 0),(7, .val (T.int .i64) s43.1)],[(1, .cells [(35, .val Az a)]),(5, .cells [(86, .val Ax x17)]),(1003, .row Ah s43.2)]⟩) (fun p44=>⟨[(1, .cp 1 0),(3, .own 1003),(4, .val (T.int .i64) s8.1)],[(1, .cells [(35, .val Az a)]),(1003, .row Ah p44)]⟩) (0,s8.2) sB (fun _=>rfl) (fun s43=>Ad<|Ad<|Ab rfl<|Aj (AB (Af rfl))<|Ap (A1 (t:=Ax) (u:=(T.sl Ah)) (Af rfl) rfl rfl Ch rfl rfl) fun x45=>Ag (DL (Af rfl)) fun x46=>Ag (A9 rfl (Af rfl) (Af rfl)) fun x47=>Ac<|Aa.cond (Af rfl) (Aa.skip<|Ai<|AD<|Ad<|Aj (AB (Af rfl))<|Ap (A1 (t:=Ax) (u:=(T.sl Ah)) (Af rfl) rfl rfl Ch rfl rfl) fun x48=>Ab rfl<|Aa.op (F7 rfl (Af rfl) (Af rfl)) fun x49=>Ap (Is rfl rfl (Af rfl)) fun x50=>Al (Cn (t:=Ah) 8 rfl rfl) fun x51=>Al (Dg (Af rfl) (Af rfl) rfl rfl (Ay _) rfl) fun x52=>Ai<|Ad<|Ap (A1 (t:=Ah) (u:=Ah) (Af rfl) rfl rfl (Ay _) rfl rfl) fun x53=>Aa.op (AF YT (.one (Af rfl))) fun x54=>Ag (EJ (Af rfl)) fun x55=>Ab rfl<|Aa.or 13 rfl rfl rfl (AU (A3 (Af rfl))<|Bf (A9 rfl (Af rfl) AY) fun x56=>
 AU (A3 (Af rfl))<|Bl.and 9 rfl rfl rfl rfl rfl (AU (AB (Af rfl))<|Bk (A1 (t:=Ax) (u:=(T.sl Ah)) (Af rfl) rfl rfl Ch rfl rfl) fun x57=>AU (A3 (Af rfl))<|Bf (Ei (I:=(IT.int .i64)) (Af rfl) AY) fun x58=>Bl.op (F7 rfl (Af rfl) (Af rfl)) fun x59=>Bk (Is rfl rfl (Af rfl)) fun x60=>Bk (A1 (t:=Ah) (u:=Ah) (Af rfl) rfl rfl (Ay _) rfl rfl) fun x61=>Bl.op (AF bI (.cons (Af rfl)<| .one (Af rfl))) fun x62=>Bf (EJ (Af rfl)) fun x63=>Bl.nil (Af rfl)) fun x64=>Bl.nil (Af rfl)) fun x65=>Ac<|Aa.cond (Af rfl) (Ad<|Aj (A3 G8)<|Ac<|By<|By<|Aa.ret (.one (AE rfl))) (Aa.skip<|Ai<|Ad<|Aj (A3 AY)<|Ac<|AD<|Aa.loop (id:=6) (σ:=Int) (τ:=Unit) (fun s66=>⟨[(1, .cp 1 0),(3, .own 1003),(4, .val (T.int .i64) s8.1),(5, .cp 5 0),(7, .val (T.int .i64) s43.1),(8, .cp 8 0),(9, .val (T.int .i64) s66)],[(1, .cells [(35, .val Az a)]),(5, .cells [(86, .val Ax x17)]),(8, .cells [(18, .val Ah x52)]),(1003, .row Ah s43.2)]⟩) (fun p67=>⟨[(1, .cp 1 0),(3, .own 1003),(4, .val (T.int .i64) s8.1),(5, .cp 5 0),(7, .val (T.int .i64) s43.1),(8, .cp 8 0)],[(1, .cells [(35, .val Az a)]),(5, .cells [(86, .val Ax x17)]),(8, .cells [(18, .val Ah x52)]),(1003, .row Ah s43.2)]⟩) 0 sB (fun _=>rfl) (fun s66=>Ad<|Ad<|Ab rfl<|Ab rfl<|Ag (uD (Af rfl) rfl) fun x68=>Ag (A9 rfl (Af rfl) (Af rfl)) fun x69=>Ac<|Aa.cond (Af rfl) (Aa.skip<|Ai<|AD<|Ad<|Ab rfl<|Ab rfl<|Aa.op (h_iasO rfl (Af rfl) rfl (Af rfl)) fun x70=>Aa.op (h_ldE (t:=Ah) (u:=Ah) rfl rfl (Ay _) (Af rfl) rfl) fun x71=>Ap (A1 (t:=Ah) (u:=Ah) (Af rfl) rfl rfl (Ay _) rfl rfl) fun x72=>
 Ag (M1 Db rfl rfl (Af rfl) (Af rfl)) fun x73=>Ac<|Aa.cond (Af rfl) (Ad<|Aj (A3 G8)<|Ac<|By<|By<|By<|Aa.ret (.one (AE rfl))) (Aa.skip<|AN<|Ac<|Ab rfl<|Ag (BJ (I:=(IT.int .i64)) (Af rfl) AY) fun x74=>Ab rfl<|Aa.next x74 sB)) (Bh<|BD () sB)) (fun p67=>Bi<|Ac<|Ab rfl<|Ap (A1 (t:=Ah) (u:=Ah) (Af rfl) rfl rfl (Ay _) rfl rfl) fun x75=>Ag (NH (t:=Ah) (n:=1) rfl rfl (.cons rfl (Af rfl)<| .nil _)) fun x76=>Cm (NR rfl (Af rfl) rfl (TU (Af rfl))) fun x77=>Ab rfl<|AN<|Ac<|Ab rfl<|Ag (BJ (I:=(IT.int .i64)) (Af rfl) AY) fun x78=>Ab rfl<|Aa.next (x78,x77) sB))) (Bh<|BD s43.2 sB)) (fun p44=>Bi<|AN<|Ac<|Ab rfl<|Ag (BJ (I:=(IT.int .i64)) (Af rfl) AY) fun x79=>Ab rfl<|Aa.next (x79,p44) sB)))) (Bh<|BD s8.2 sB)) (fun p9=>Bi<|Ai<|Ab rfl<|Ag (uD (Af rfl) rfl) fun x80=>Ag (A9 rfl (Af rfl) AY) fun x81=>Ab rfl<|Ac<|Aa.ret (.one (AE rfl))))
theorem Q2:Spec tb FT [Az] [T.b] (fun a=>Ml a):=
 Spec.of eL rfl rfl rfl WT
noncomputable def IJ(a0:Int):Option Bool:=(De (decide (0≤a0)) (some (decide (a0≤65535)))).bind fun x3=>some x3
noncomputable def UX(a:Ce [(T.int .i64)]):BS tb Ku [(T.int .i64)] [T.b] a:=Ad<|Aj (A3 G8)<|Ai<|Ab rfl<|Ag (A9 rfl (Af rfl) AY) fun x1=>Ab rfl<|Aa.and 2 rfl rfl rfl (AU (A3 (Af rfl))<|Bf (A9 rfl (Af rfl) AY) fun x2=>Bl.nil (Af rfl)) fun x3=>Ab rfl<|Ac<|Aa.ret (.one (AE rfl))
theorem P4:Spec tb EX [(T.int .i64)] [T.b] (fun a=>IJ a):=
 Spec.of ZP rfl rfl rfl UX
noncomputable def MB(a0:(Ar UInt8 4)):Option A4:=(if 0+4≤4 then zU ((⟨4,(A2 16 T.u8).z⟩:A4).B) 0 16 ((a0.l.drop 0).take 4)else none).bind fun x5=>let x6:=({(⟨4,(A2 16 T.u8).z⟩:A4)with B:=x5});some x6
noncomputable def Xk(a:Ce [(A2 4 T.u8)]):BS tb LF [(A2 4 T.u8)] [Ak] a:=Ad<|Al (Bt (t:=(A2 4 T.u8)) 1 rfl rfl (Af rfl)) fun _=>Al (Cn (t:=Ak) 2 rfl rfl) fun x1=>Ai<|Ag (D4 rfl rfl (.cons BE rfl AY<| .nil _)) fun x2=>Al (Cn (t:=Ak) 3 rfl rfl) fun x3=>Al (Dg (Af rfl) (Af rfl) rfl rfl (Ay _) rfl) fun x4=>Ai<|Aa.regd 1<|A6 rfl (AB (Af rfl))<|A6 rfl (Nh (k:=0) (m:=16) rfl rfl (Af rfl) .none .none rfl rfl rfl)<|A6 rfl (Nh (k:=0) (m:=4) rfl rfl (Af rfl) .none .none rfl rfl rfl)<|DP rfl (fun _=> .nil) (.nil) (M_if (c:=0+4≤4) fun hc=>M_cpyD (t:=T.u8) (s:=Ak) (o:=1) (k:=0) BT rfl (Af rfl) (n_oc (o:=0) (k:=0) (m:=4) (n:=4) (Ay _) rfl (Af rfl) rfl rfl hc) rfl rfl) fun x5=>CO<|Ai<|Ap (A1 (t:=Ak) (u:=Ak) (Af rfl) rfl rfl (Ay _) rfl rfl) fun x6=>Al (Dg (Af rfl) (Af rfl) rfl rfl (Ay _) rfl) fun x7=>Ac<|Aa.ret (.one (Hk rfl rfl rfl (Ay _) rfl rfl))
theorem Zc:Spec tb Hd [(A2 4 T.u8)] [Ak] (fun a=>MB a):=
 Spec.of fC rfl rfl rfl Xk
noncomputable def GJ(a0:A4):Option Bool:=(HO (decide (a0.V=6)) ((De (decide (a0.V=4)) (let x6:=(⟨(a0.B.l.drop 0).take 4,by rw[List.length_take,List.length_drop,Ar.len];rfl⟩:(Ar UInt8 4));(MB x6).bind fun x7=>some (G7 E1 a0 x7))).bind fun x9=>some x9)).bind fun x10=>some x10
noncomputable def Vf(a:Ce [Ak]):BS tb K2 [Ak] [T.b] a:=Ad<|Al (Bt (t:=Ak) 1 rfl rfl (Af rfl)) fun _=>Aj (A3 G8)<|Ai<|Aj (AB (Af rfl))<|Ap (A1 (t:=Ak) (u:=(T.int .i64)) (Af rfl) rfl rfl BE rfl rfl) fun x1=>Ag (A9 rfl (Af rfl) AY) fun x2=>Ab rfl<|Aa.or 12 rfl rfl rfl (AU (AB (Af rfl))<|Bk (A1 (t:=Ak) (u:=(T.int .i64)) (Af rfl) rfl rfl BE rfl rfl) fun x3=>Bf (A9 rfl (Af rfl) AY) fun x4=>AU (A3 (Af rfl))<|Bl.and 7 rfl rfl rfl rfl rfl (Bk (A1 (t:=Ak) (u:=Ak) (Af rfl) rfl rfl (Ay _) rfl rfl) fun x5=>AU (AB (Af rfl))<|AU (Nh (k:=0) (m:=4) rfl rfl (Af rfl) .none (.some AY) rfl rfl rfl)<|AU (uA (Af rfl) rfl)<|Bk (A1 (t:=Ak) (u:=(A2 4 T.u8)) (Af rfl) rfl rfl (JF BT (Ta 16 T.u8 0 4 (by decide))) rfl rfl) fun x6=>Bl.op (AF Zc (.one (Af rfl))) fun x7=>Bf (M1 E1 rfl rfl (Af rfl) (Af rfl)) fun x8=>Bl.nil (Af rfl)) fun x9=>Bl.nil (Af rfl)) fun x10=>Ab rfl<|Ac<|Aa.ret (.one (AE rfl))
theorem Hs:Spec tb Do [Ak] [T.b] (fun a=>GJ a):=
 Spec.of ZX rfl rfl rfl Vf
noncomputable def KX(a0:A4):Option Int:=(GJ a0).bind fun x2=>if(!x2)=true then some 0 else if(decide (a0.V=4))=true then some 32 else some 128
noncomputable def Ve(a:Ce [Ak]):BS tb K1 [Ak] [(T.int .i64)] a:=Ad<|Al (Bt (t:=Ak) 1 rfl rfl (Af rfl)) fun _=>Aj (A3 AY)<|Ai<|AD<|Ad<|Ap (A1 (t:=Ak) (u:=Ak) (Af rfl) rfl rfl (Ay _) rfl rfl) fun x1=>Aa.op (AF Hs (.one (Af rfl))) fun x2=>Ag (EJ (Af rfl)) fun x3=>Ab rfl<|Ac<|Aa.cond (Af rfl) (Ad<|Aj (A3 AY)<|Ac<|Aa.ret (.one (AE rfl))) (Ad<|Aj (AB (Af rfl))<|Ap (A1 (t:=Ak) (u:=(T.int .i64)) (Af rfl) rfl rfl BE rfl rfl) fun x4=>Ag (A9 rfl (Af rfl) AY) fun x5=>Ab rfl<|Ac<|Aa.cond (Af rfl) (Ad<|Aj (A3 AY)<|Ac<|Aa.ret (.one (AE rfl))) (Aa.skip<|AN<|Ai<|Aj (A3 AY)<|Ac<|Aa.ret (.one (AE rfl))))
theorem P5:Spec tb Fa [Ak] [(T.int .i64)] (fun a=>KX a):=
 Spec.of ZW rfl rfl rfl Ve
noncomputable def Pe(a0:A4)(a1:Int):Option A4:=(GJ a0).bind fun x3=>if(!x3)=true then some (⟨0,(A2 16 T.u8).z⟩:A4) else (iter (fun(s7:(Int×A4))=>if(decide (s7.1<16))=true then let x11:=IntKind.i64.wrap (a1-IntKind.i64.wrap (8*s7.1));let x13:=if 8<if 0>x11 then 0 else x11 then 8 else if 0>x11 then 0 else x11;(if(decide (a1<0))=true then some (.inl 0) else some (.inl x13):Option (Int⊕_)).bind (Sum.elim (fun(p15:Int)=>(Ft 16 s7.1).bind fun x17=>(s7.2.B.l[x17]?).bind fun x18=>(if((Co (IntKind.i64.wrap (8-p15))).toNat:Int)<0 then none else some (Ps (((255:UInt8).toNat:Int)*2^(min ((Co (IntKind.i64.wrap (8-p15))).toNat:Int).toNat 8)))).bind fun x21=>let x22:=Ps (JE .and .u8 (x18.toNat:Int) (x21.toNat:Int));(Ft 16 s7.1).bind fun x23=>(if x23<16 then some ({s7.2 with B:=s7.2.B.set x23 x22})else none).bind fun x24=>some (.inl (IntKind.i64.wrap (s7.1+1),x24))) some) else some (.inr (.inl s7.2))) (0,a0)).bind (Sum.elim (fun(p8:A4)=>some p8) some)
noncomputable def Xi(a:Ce [Ak,(T.int .i64)]):BS tb LD [Ak,(T.int .i64)] [Ak] a:=Ad<|Al (Bt (t:=Ak) 2 rfl rfl (Af rfl)) fun _=>Al (Cn (t:=Ak) 4 rfl rfl) fun x1=>Ai<|Ad<|Ap (A1 (t:=Ak) (u:=Ak) (Af rfl) rfl rfl (Ay _) rfl rfl) fun x2=>Aa.op (AF Hs (.one (Af rfl))) fun x3=>Ag (EJ (Af rfl)) fun x4=>Ac<|Aa.cond (Af rfl) (Ad<|Ag (D4 rfl rfl (.nil _)) fun x5=>Al (Dg (Af rfl) (Af rfl) rfl rfl (Ay _) rfl) fun x6=>Ac<|Aa.ret (.one (Hk rfl rfl rfl (Ay _) rfl rfl))) (Aa.skip<|Ai<|Ad<|Aj (A3 AY)<|Ac<|AD<|Aa.loop (id:=0) (σ:=(Int×A4)) (τ:=A4) (fun s7=>⟨[(1, .val (T.int .i64) a.2),(2, .cp 2 0),(4, .cp 4 0),(11, .val (T.int .i64) s7.1)],[(2, .cells [(17, .val Ak s7.2)]),(4, .cells [(17, .val Ak x1)])]⟩) (fun p8=>⟨[(2, .cp 2 0),(4, .cp 4 0)],[(2, .cells [(17, .val Ak p8)]),(4, .cells [(17, .val Ak x1)])]⟩) (0,a.1) sB (fun _=>rfl) (fun s7=>Ad<|Ag (A9 rfl (Af rfl) AY) fun x9=>Ai<|Aa.cond (Af rfl) (Aa.skip<|Ai<|AD<|Ad<|Ab rfl<|Ab rfl<|Ai<|Ab rfl<|Ab rfl<|Ag (Lr (I:=(IT.int .i64)) AY (Af rfl)) fun x10=>Ag (Ei (I:=(IT.int .i64)) (Af rfl) (Af rfl)) fun x11=>Ag (h_max (I:=(IT.int .i64)) (mx:=true) (Af rfl) AY) fun x12=>Ag (h_max (I:=(IT.int .i64)) (mx:=false) (Af rfl) AY) fun x13=>Ab rfl<|Ai<|Ad<|Ab rfl<|Ag (A9 rfl (Af rfl) AY) fun x14=>Ac<|Ih (τ:=Int) (fun p15=>⟨[(1, .val (T.int .i64) a.2),(2, .cp 2 0),(4, .cp 4 0),(5, .val (T.int .i64) s7.1),(6, .val (T.int .i64) p15),(11, .val (T.int .i64) s7.1)],[(2, .cells [(17, .val Ak s7.2)]),(4, .cells [(17, .val Ak x1)])]⟩) (fun p15=>Ac<|Ab rfl<|Aj (AB (Af rfl))<|
 Aa.op (IV (Af rfl) (Af rfl)) fun x17=>Aa.op (Tq BT rfl rfl (Af rfl) rfl rfl) fun x18=>Ab rfl<|Ag (Ei (I:=(IT.int .i64)) AY (Af rfl)) fun x19=>Ag (HZ (I:=(IT.int .i64)) (J:=IT.u64) rfl (Af rfl)) fun x20=>Aa.op (h_shl (I:=IT.u8) (J:=IT.u64) (sW 255 rfl) (Af rfl)) fun x21=>Ag (uH (I:=IT.u8) (Af rfl) (Af rfl)) fun x22=>Aj (AB (Af rfl))<|Aa.op (IV (Af rfl) (Af rfl)) fun x23=>Cm (Ii (s:=Ak) BT rfl (Af rfl) (Af rfl) rfl rfl) fun x24=>AN<|Ac<|Ag (BJ (I:=(IT.int .i64)) (Af rfl) AY) fun x25=>Ab rfl<|Aa.next (x25,x24) sB)<|Aa.cond (Af rfl) (Aj (A3 AY)<|Ho 0 sB) (Aa.skip<|Ho x13 sB)) (Bh<|BD s7.2 sB)) (fun p8=>Bi<|Ai<|Ap (A1 (t:=Ak) (u:=Ak) (Af rfl) rfl rfl (Ay _) rfl rfl) fun x26=>Al (Dg (Af rfl) (Af rfl) rfl rfl (Ay _) rfl) fun x27=>Ac<|Aa.ret (.one (Hk rfl rfl rfl (Ay _) rfl rfl))))
theorem Za:Spec tb Hb [Ak,(T.int .i64)] [Ak] (fun a=>Pe a.1 a.2):=
 Spec.of fA rfl rfl rfl Xi
noncomputable def aF(a0:A4)(a1:Int):Option (Ao×Int):=(GJ a0).bind fun x3=>if(!x3)=true then some ((⟨Ak.z,0⟩:Ao),1) else (HO (decide (a1<0)) ((KX a0).bind fun x9=>some (decide (x9<a1)))).bind fun x11=>if x11=true then some ((⟨Ak.z,0⟩:Ao),6) else (Pe a0 a1).bind fun x15=>some ((⟨x15,a1⟩:Ao),0)
noncomputable def bM(a:Ce [Ak,(T.int .i64)]):BS tb Pc [Ak,(T.int .i64)] [Ah,(T.int .i64)] a:=Ad<|Al (Bt (t:=Ak) 2 rfl rfl (Af rfl)) fun _=>Al (Cn (t:=Ah) 4 rfl rfl) fun x1=>Aj (A3 AY)<|Ai<|AD<|Ad<|Ap (A1 (t:=Ak) (u:=Ak) (Af rfl) rfl rfl (Ay _) rfl rfl) fun x2=>Aa.op (AF Hs (.one (Af rfl))) fun x3=>Ag (EJ (Af rfl)) fun x4=>Ab rfl<|Ac<|Aa.cond (Af rfl) (Ad<|Ag (D4 rfl rfl (.nil _)) fun x5=>Al (Dg (Af rfl) (Af rfl) rfl rfl (Ay _) rfl) fun x6=>Aj (A3 AY)<|Ac<|Aa.ret (.cons (Hk rfl rfl rfl (Ay _) rfl rfl)<| .one (AE rfl))) (Ad<|Ab rfl<|Ag (A9 rfl (Af rfl) AY) fun x7=>Ab rfl<|Aa.or 4 rfl rfl rfl (AU (A3 (Af rfl))<|Bk (A1 (t:=Ak) (u:=Ak) (Af rfl) rfl rfl (Ay _) rfl rfl) fun x8=>Bl.op (AF P5 (.one (Af rfl))) fun x9=>Bf (A9 rfl (Af rfl) (Af rfl)) fun x10=>Bl.nil (Af rfl)) fun x11=>Ab rfl<|Ac<|Aa.cond (Af rfl) (Ad<|Ag (D4 rfl rfl (.nil _)) fun x12=>Al (Dg (Af rfl) (Af rfl) rfl rfl (Ay _) rfl) fun x13=>Aj (A3 AY)<|Ac<|Aa.ret (.cons (Hk rfl rfl rfl (Ay _) rfl rfl)<| .one (AE rfl))) (Aa.skip<|AN<|Ai<|Ap (A1 (t:=Ak) (u:=Ak) (Af rfl) rfl rfl (Ay _) rfl rfl) fun x14=>Ab rfl<|Aa.op (AF Za (.cons (Af rfl)<| .one (Af rfl))) fun x15=>Ab rfl<|Ag (D4 rfl rfl (.cons BC rfl (Af rfl)<| .cons BX rfl (Af rfl)<| .nil _)) fun x16=>Al (Dg (Af rfl) (Af rfl) rfl rfl (Ay _) rfl) fun x17=>Aj (A3 AY)<|Ac<|Aa.ret (.cons (Hk rfl rfl rfl (Ay _) rfl rfl)<| .one (AE rfl))))
theorem gO:Spec tb IX [Ak,(T.int .i64)] [Ah,(T.int .i64)] (fun a=>aF a.1 a.2):=
 Spec.of oU rfl rfl rfl bM
noncomputable def HR(a0:Ao):Option Bool:=(aF a0.A a0.Bits).bind fun x3=>(De (decide (x3.2=0)) (some (G7 Db x3.1 a0))).bind fun x12=>some x12
noncomputable def Vd(a:Ce [Ah]):BS tb K0 [Ah] [T.b] a:=Ad<|Al (Bt (t:=Ah) 1 rfl rfl (Af rfl)) fun _=>Aj (A3 G8)<|Ai<|Aj (AB (Af rfl))<|Ap (A1 (t:=Ah) (u:=Ak) (Af rfl) rfl rfl BC rfl rfl) fun x1=>Aj (AB (Af rfl))<|Ap (A1 (t:=Ah) (u:=(T.int .i64)) (Af rfl) rfl rfl BX rfl rfl) fun x2=>Aa.op (Jg gO (.cons (Af rfl)<| .one (Af rfl))) fun x3=>Ab rfl<|Ap (Cp (Af rfl) rfl) fun x4=>Ap (Cp (Af rfl) rfl) fun x5=>Al (Cn (t:=Ah) 3 rfl rfl) fun x6=>Al (Dg (Af rfl) (Af rfl) rfl rfl (Ay _) rfl) fun x7=>Ab rfl<|Ai<|Ab rfl<|Ag (A9 rfl (Af rfl) AY) fun x8=>Ab rfl<|Aa.and 3 rfl rfl rfl (Bk (A1 (t:=Ah) (u:=Ah) (Af rfl) rfl rfl (Ay _) rfl rfl) fun x9=>Bk (A1 (t:=Ah) (u:=Ah) (Af rfl) rfl rfl (Ay _) rfl rfl) fun x10=>Bf (M1 Db rfl rfl (Af rfl) (Af rfl)) fun x11=>Bl.nil (Af rfl)) fun x12=>Ab rfl<|Ac<|Aa.ret (.one (AE rfl))
theorem LI:Spec tb Ej [Ah] [T.b] (fun a=>HR a):=
 Spec.of ZV rfl rfl rfl Vd
noncomputable def Jp(a0:(GS UInt8))(a1:(GS UInt8)):Option Int:=(ER a0 a1).bind fun x1=>some x1
noncomputable def QH(a:Ce [(T.sl T.u8),(T.sl T.u8)]):BS tb HI [(T.sl T.u8),(T.sl T.u8)] [(T.int .i64)] a:=Ad<|Aj (A3 AY)<|Ai<|Ab rfl<|Ab rfl<|Aa.op (AF Ke (.cons (Af rfl)<| .one (Af rfl))) fun x1=>Ab rfl<|Ac<|Aa.ret (.one (AE rfl))
theorem RY:Spec tb Er [(T.sl T.u8),(T.sl T.u8)] [(T.int .i64)] (fun a=>Jp a.1 a.2):=
 Spec.of Uv rfl rfl rfl QH
noncomputable def Pg(a0:A4)(a1:A4):Option Bool:=if(!decide (a0.V=a1.V))=true then some (decide (a0.V<a1.V)) else (if 0+16≤16∧0+16≤16 then Jp (GS.mk ((a0.B.l.drop 0).take 16)) (GS.mk ((a1.B.l.drop 0).take 16))else none).bind fun x7=>some (decide (x7<0))
noncomputable def Xj(a:Ce [Ak,Ak]):BS tb LE [Ak,Ak] [T.b] a:=Ad<|Al (Bt (t:=Ak) 2 rfl rfl (Af rfl)) fun _=>Al (Bt (t:=Ak) 3 rfl rfl (Af rfl)) fun _=>Aj (A3 G8)<|Ai<|Ad<|Aj (AB (Af rfl))<|Ap (A1 (t:=Ak) (u:=(T.int .i64)) (Af rfl) rfl rfl BE rfl rfl) fun x1=>Aj (AB (Af rfl))<|Ap (A1 (t:=Ak) (u:=(T.int .i64)) (Af rfl) rfl rfl BE rfl rfl) fun x2=>Ag (A9 rfl (Af rfl) (Af rfl)) fun x3=>Ac<|Aa.cond (Af rfl) (Ad<|Aj (AB (Af rfl))<|Ap (A1 (t:=Ak) (u:=(T.int .i64)) (Af rfl) rfl rfl BE rfl rfl) fun x4=>Aj (AB (Af rfl))<|Ap (A1 (t:=Ak) (u:=(T.int .i64)) (Af rfl) rfl rfl BE rfl rfl) fun x5=>Ag (A9 rfl (Af rfl) (Af rfl)) fun x6=>Ab rfl<|Ac<|Aa.ret (.one (AE rfl))) (Aa.skip<|Ai<|Aj (AB (Af rfl))<|Aj (Nh (k:=0) (m:=16) rfl rfl (Af rfl) .none .none rfl rfl rfl)<|Aj (AB (Af rfl))<|Aj (Nh (k:=0) (m:=16) rfl rfl (Af rfl) .none .none rfl rfl rfl)<|Aa.op (KB (c:=0+16≤16∧0+16≤16) RY (.cons eD .nil) (fun hc=> .cons (a_s (o:=1) (k:=0) (m:=16) (n:=16) BT rfl (Af rfl) rfl rfl hc.1)<| .one (a_s (o:=1) (k:=0) (m:=16) (n:=16) BT rfl (Af rfl) rfl rfl hc.2))) fun x7=>Ag (A9 rfl (Af rfl) AY) fun x8=>Ab rfl<|Ac<|Aa.ret (.one (AE rfl)))
theorem Zb:Spec tb Hc [Ak,Ak] [T.b] (fun a=>Pg a.1 a.2):=
 Spec.of fB rfl rfl rfl Xj
noncomputable def M7(a0:Ao)(a1:Ao):Option Bool:=if(G7 E1 a0.A a1.A)=true then some (decide (a0.Bits<a1.Bits)) else (Pg a0.A a1.A).bind fun x9=>some x9
noncomputable def Xg(a:Ce [Ah,Ah]):BS tb LB [Ah,Ah] [T.b] a:=Ad<|Al (Bt (t:=Ah) 2 rfl rfl (Af rfl)) fun _=>Al (Bt (t:=Ah) 3 rfl rfl (Af rfl)) fun _=>Aj (A3 G8)<|Ai<|Ad<|Aj (AB (Af rfl))<|Ap (A1 (t:=Ah) (u:=Ak) (Af rfl) rfl rfl BC rfl rfl) fun x1=>Aj (AB (Af rfl))<|Ap (A1 (t:=Ah) (u:=Ak) (Af rfl) rfl rfl BC rfl rfl) fun x2=>Ag (M1 E1 rfl rfl (Af rfl) (Af rfl)) fun x3=>Ac<|Aa.cond (Af rfl) (Ad<|Aj (AB (Af rfl))<|Ap (A1 (t:=Ah) (u:=(T.int .i64)) (Af rfl) rfl rfl BX rfl rfl) fun x4=>Aj (AB (Af rfl))<|Ap (A1 (t:=Ah) (u:=(T.int .i64)) (Af rfl) rfl rfl BX rfl rfl) fun x5=>Ag (A9 rfl (Af rfl) (Af rfl)) fun x6=>Ab rfl<|Ac<|Aa.ret (.one (AE rfl))) (Aa.skip<|Ai<|Aj (AB (Af rfl))<|Ap (A1 (t:=Ah) (u:=Ak) (Af rfl) rfl rfl BC rfl rfl) fun x7=>Aj (AB (Af rfl))<|Ap (A1 (t:=Ah) (u:=Ak) (Af rfl) rfl rfl BC rfl rfl) fun x8=>Aa.op (AF Zb (.cons (Af rfl)<| .one (Af rfl))) fun x9=>Ab rfl<|Ac<|Aa.ret (.one (AE rfl)))
theorem YZ:Spec tb Ha [Ah,Ah] [T.b] (fun a=>M7 a.1 a.2):=
 Spec.of eY rfl rfl rfl Xg
noncomputable def Lg(a0:(GS Ao)):Option Bool:=(iter (fun(s2:Int)=>if(decide (s2<(a0.l.length:Int)))=true then (ES a0.l s2).bind fun x5=>(HR x5).bind fun x10=>(HO (!x10) ((De (decide (0<s2)) ((ES a0.l (IntKind.i64.wrap (s2-1))).bind fun x14=>(M7 x14 x5).bind fun x17=>some (!x17))).bind fun x19=>some x19)).bind fun x20=>if x20=true then (some false).map fun r=> .inr (.inr r) else some (.inl (IntKind.i64.wrap (s2+1))) else some (.inr (.inl ()))) 0).bind (Sum.elim (fun(p3:Unit)=>some true) some)
noncomputable def TM(a:Ce [(T.sl Ah)]):BS tb Jk [(T.sl Ah)] [T.b] a:=Ad<|Aj (A3 G8)<|Ai<|Ad<|Ab rfl<|Ag (DL (Af rfl)) fun x1=>Aj (A3 AY)<|Ac<|AD<|Aa.loop (id:=0) (σ:=Int) (τ:=Unit) (fun s2=>⟨[(0, .val (T.sl Ah) a),(5, .val (T.sl Ah) a),(6, .val (T.int .i64) x1),(7, .val (T.int .i64) s2)],[]⟩) (fun p3=>⟨[],[]⟩) 0 sB (fun _=>rfl) (fun s2=>Ad<|Ag (A9 rfl (Af rfl) (Af rfl)) fun x4=>Ai<|Aa.cond (Af rfl) (Aa.skip<|Ai<|AD<|Ad<|Ab rfl<|Aa.op (F7 rfl (Af rfl) (Af rfl)) fun x5=>Ap (Is rfl rfl (Af rfl)) fun x6=>Al (Cn (t:=Ah) 4 rfl rfl) fun x7=>Ab rfl<|Al (Dg (Af rfl) (Af rfl) rfl rfl (Ay _) rfl) fun x8=>Ai<|Ap (A1 (t:=Ah) (u:=Ah) (Af rfl) rfl rfl (Ay _) rfl rfl) fun x9=>Aa.op (AF LI (.one (Af rfl))) fun x10=>Ag (EJ (Af rfl)) fun x11=>Ab rfl<|Aa.or 12 rfl rfl rfl (AU (A3 (Af rfl))<|Bf (A9 rfl (Af rfl) AY) fun x12=>AU (A3 (Af rfl))<|Bl.and 8 rfl rfl rfl rfl rfl (AU (A3 (Af rfl))<|AU (A3 (Af rfl))<|Bf (Ei (I:=(IT.int .i64)) (Af rfl) AY) fun x13=>Bl.op (F7 rfl (Af rfl) (Af rfl)) fun x14=>Bk (Is rfl rfl (Af rfl)) fun x15=>Bk (A1 (t:=Ah) (u:=Ah) (Af rfl) rfl rfl (Ay _) rfl rfl) fun x16=>Bl.op (AF YZ (.cons (Af rfl)<| .one (Af rfl))) fun x17=>Bf (EJ (Af rfl)) fun x18=>Bl.nil (Af rfl)) fun x19=>Bl.nil (Af rfl)) fun x20=>Ac<|Aa.cond (Af rfl) (Ad<|Aj (A3 G8)<|Ac<|By<|Aa.ret (.one (AE rfl))) (Aa.skip<|AN<|Ac<|Ag (BJ (I:=(IT.int .i64)) (Af rfl) AY) fun x21=>Ab rfl<|Aa.next x21 sB)) (Bh<|BD () sB)) (fun p3=>Bi<|Ai<|Aj (A3 G8)<|Ac<|Aa.ret (.one (AE rfl)))
theorem UT:Spec tb Fv [(T.sl Ah)] [T.b] (fun a=>Lg a):=
 Spec.of Xy rfl rfl rfl TM
noncomputable def ET(a0:AA):Option Bool:=let x3:=(G7 Du a0 (⟨Ak.z,0⟩:AA));some x3
noncomputable def QB(a:Ce [Aq]):BS tb HC [Aq] [T.b] a:=Ad<|Al (Bt (t:=Aq) 1 rfl rfl (Af rfl)) fun _=>Aj (A3 G8)<|Ai<|Ap (A1 (t:=Aq) (u:=Aq) (Af rfl) rfl rfl (Ay _) rfl rfl) fun x1=>Ag (D4 rfl rfl (.nil _)) fun x2=>Ag (M1 Du rfl rfl (Af rfl) (Af rfl)) fun x3=>Ab rfl<|Ac<|Aa.ret (.one (AE rfl))
theorem Me:Spec tb D7 [Aq] [T.b] (fun a=>ET a):=
 Spec.of Up rfl rfl rfl QB
noncomputable def DK(a0:AA):Option Bool:=(GJ a0.A).bind fun x2=>(De x2 (some (decide (1≤a0.Port)))).bind fun x5=>(De x5 (some (decide (a0.Port≤65535)))).bind fun x8=>some x8
noncomputable def PS(a:Ce [Aq]):BS tb Hg [Aq] [T.b] a:=Ad<|Al (Bt (t:=Aq) 1 rfl rfl (Af rfl)) fun _=>Aj (A3 G8)<|Ai<|Aj (AB (Af rfl))<|Ap (A1 (t:=Aq) (u:=Ak) (Af rfl) rfl rfl F6 rfl rfl) fun x1=>Aa.op (AF Hs (.one (Af rfl))) fun x2=>Ab rfl<|Aa.and 3 rfl rfl rfl (AU (AB (Af rfl))<|Bk (A1 (t:=Aq) (u:=(T.int .i64)) (Af rfl) rfl rfl Ea rfl rfl) fun x3=>Bf (A9 rfl (Af rfl) AY) fun x4=>Bl.nil (Af rfl)) fun x5=>Ab rfl<|Aa.and 3 rfl rfl rfl (AU (AB (Af rfl))<|Bk (A1 (t:=Aq) (u:=(T.int .i64)) (Af rfl) rfl rfl Ea rfl rfl) fun x6=>Bf (A9 rfl (Af rfl) AY) fun x7=>Bl.nil (Af rfl)) fun x8=>Ab rfl<|Ac<|Aa.ret (.one (AE rfl))
theorem Im:Spec tb CI [Aq] [T.b] (fun a=>DK a):=
 Spec.of SG rfl rfl rfl PS
noncomputable def IK(a0:Be):Option Bool:=(IJ a0.Port).bind fun x2=>(HO (!x2) (some (decide (16<(a0.Peers.l.length:Int))))).bind fun x7=>if x7=true then some false else let x8:=(⟨[0,0,0,0,0,0,0,0,0,0,0,0,0,0,0,0,0,0,0,0,0,0,0,0,0,0,0,0,0,0,0,0],rfl⟩:(Ar UInt8 32));let x9:=QX (κ:=(Ar UInt8 32)) (ν:=Bool) M4 ([]:List ((Ar UInt8 32)×Bool)) x8 true;(iter (fun(s12:(Int×(List ((Ar UInt8 32)×Bool))×(List (Ao×Bool))))=>if(decide (s12.1<(a0.Peers.l.length:Int)))=true then (ES a0.Peers.l s12.1).bind fun x15=>let x20:=(QY (κ:=(Ar UInt8 32)) (ν:=Bool) M4 s12.2.1 x15.Key).getD false;(HO x20 ((IJ x15.Keep).bind fun x22=>some (!x22))).bind fun x24=>(HO x24 ((Lg x15.Allowed).bind fun x26=>some (!x26))).bind fun x28=>if x28=true then (some false).map fun r=> .inr (.inr r) else (ET x15.End).bind fun x30=>(De (!x30) ((DK x15.End).bind fun x33=>some (!x33))).bind fun x35=>if x35=true then (some false).map fun r=> .inr (.inr r) else let x37:=QX (κ:=(Ar UInt8 32)) (ν:=Bool) M4 s12.2.1 x15.Key true;(iter (fun(s40:(Int×(List (Ao×Bool))))=>if(decide (s40.1<(x15.Allowed.l.length:Int)))=true then (ES x15.Allowed.l s40.1).bind fun x43=>let x48:=(QY (κ:=Ao) (ν:=Bool) Gv s40.2 x43).getD false;if x48=true then ((some false).map fun r=> .inr (.inr r)).map fun r=> .inr (.inr r) else let x50:=QX (κ:=Ao) (ν:=Bool) Gv s40.2 x43 true;some (.inl (IntKind.i64.wrap (s40.1+1),x50)) else some (.inr (.inl s40.2))) (0,s12.2.2)).bind (Sum.elim (fun(p41:(List (Ao×Bool)))=>some (.inl (IntKind.i64.wrap (s12.1+1),x37,p41))) some)
 else some (.inr (.inl s12.2.2))) (0,x9,([]:List (Ao×Bool)))).bind (Sum.elim (fun(p13:(List (Ao×Bool)))=>some (decide ((p13.length:Int)≤64))) some)
noncomputable def UY(a:Ce [Az]):BS tb Kv [Az] [T.b] a:=Ad<|Al (Bt (t:=Az) 1 rfl rfl (Af rfl)) fun _=>Aj (A3 G8)<|Ai<|Ad<|Aj (AB (Af rfl))<|Ap (A1 (t:=Az) (u:=(T.int .i64)) (Af rfl) rfl rfl Gm rfl rfl) fun x1=>Aa.op (AF P4 (.one (Af rfl))) fun x2=>Ag (EJ (Af rfl)) fun x3=>Ab rfl<|Aa.or 4 rfl rfl rfl (AU (AB (Af rfl))<|Bk (A1 (t:=Az) (u:=(T.sl Ax)) (Af rfl) rfl rfl Bw rfl rfl) fun x4=>Bf (DL (Af rfl)) fun x5=>Bf (A9 rfl (Af rfl) AY) fun x6=>Bl.nil (Af rfl)) fun x7=>Ac<|Aa.cond (Af rfl) (Ad<|Aj (A3 G8)<|Ac<|Aa.ret (.one (AE rfl))) (Aa.skip<|Ai<|Al (M_mkm (K:=(A2 32 T.u8)) (V:=T.b) 1019 rfl) fun _=>Ap (iX (t:=T.u8) (⟨[0,0,0,0,0,0,0,0,0,0,0,0,0,0,0,0,0,0,0,0,0,0,0,0,0,0,0,0,0,0,0,0],rfl⟩:(Ar UInt8 32)) rfl (.nil _)) fun x8=>Al (wA (K:=(A2 32 T.u8)) (V:=T.b) ⟨_,(DT 32 BZ.u8), .inl ⟨rfl,rfl⟩⟩ (Af rfl) rfl (Af rfl) G8) fun x9=>Ab rfl<|Al (M_mkm (K:=Ah) (V:=T.b) 1022 rfl) fun _=>Ab rfl<|Ab rfl<|Ai<|Ad<|Aj (AB (Af rfl))<|Ap (A1 (t:=Az) (u:=(T.sl Ax)) (Af rfl) rfl rfl Bw rfl rfl) fun x10=>Ag (DL (Af rfl)) fun x11=>Aj (A3 AY)<|Ac<|AD<|Aa.loop (id:=0) (σ:=(Int×(List ((Ar UInt8 32)×Bool))×(List (Ao×Bool)))) (τ:=(List (Ao×Bool))) (fun s12=>⟨[(3, .own 1019),(4, .own 1022),(24, .val (T.sl Ax) x10),(25, .val (T.int .i64) x11),(26, .val (T.int .i64) s12.1)],[(1019, .dom (OG (A2 32 T.u8) T.b) s12.2.1),(1022, .dom (OG Ah T.b) s12.2.2)]⟩) (fun p13=>⟨[(4, .own 1022)],[(1022, .dom (OG Ah T.b) p13)]⟩) (0,x9,([]:List (Ao×Bool))) sB (fun _=>rfl) (fun s12=>Ad<|Ag (A9 rfl (Af rfl) (Af rfl)) fun x14=>Ai<|Aa.cond (Af rfl) (
 Aa.skip<|Ai<|AD<|Ad<|Aa.op (F7 rfl (Af rfl) (Af rfl)) fun x15=>Ap (Is rfl rfl (Af rfl)) fun x16=>Al (Cn (t:=Ax) 6 rfl rfl) fun x17=>Al (Dg (Af rfl) (Af rfl) rfl rfl (Ay _) rfl) fun x18=>Ai<|Ad<|Ab rfl<|Aj (AB (Af rfl))<|Ap (A1 (t:=Ax) (u:=(A2 32 T.u8)) (Af rfl) rfl rfl DR rfl rfl) fun x19=>Ag (h_lkp (K:=(A2 32 T.u8)) (V:=T.b) ⟨_,(DT 32 BZ.u8), .inl ⟨rfl,rfl⟩⟩ (.inr ⟨rfl,rfl⟩) (Af rfl) rfl (Af rfl)) fun x20=>Ab rfl<|Aa.or 4 rfl rfl rfl (AU (AB (Af rfl))<|Bk (A1 (t:=Ax) (u:=(T.int .i64)) (Af rfl) rfl rfl Gk rfl rfl) fun x21=>Bl.op (AF P4 (.one (Af rfl))) fun x22=>Bf (EJ (Af rfl)) fun x23=>Bl.nil (Af rfl)) fun x24=>Ab rfl<|Aa.or 4 rfl rfl rfl (AU (AB (Af rfl))<|Bk (A1 (t:=Ax) (u:=(T.sl Ah)) (Af rfl) rfl rfl Ch rfl rfl) fun x25=>Bl.op (AF UT (.one (Af rfl))) fun x26=>Bf (EJ (Af rfl)) fun x27=>Bl.nil (Af rfl)) fun x28=>Ac<|Aa.cond (Af rfl) (Ad<|Aj (A3 G8)<|Ac<|By<|Aa.ret (.one (AE rfl))) (Aa.skip<|Ai<|Ad<|Aj (AB (Af rfl))<|Ap (A1 (t:=Ax) (u:=Aq) (Af rfl) rfl rfl DS rfl rfl) fun x29=>Aa.op (AF Me (.one (Af rfl))) fun x30=>Ag (EJ (Af rfl)) fun x31=>Ab rfl<|Aa.and 4 rfl rfl rfl (AU (AB (Af rfl))<|Bk (A1 (t:=Ax) (u:=Aq) (Af rfl) rfl rfl DS rfl rfl) fun x32=>Bl.op (AF Im (.one (Af rfl))) fun x33=>Bf (EJ (Af rfl)) fun x34=>Bl.nil (Af rfl)) fun x35=>Ac<|Aa.cond (Af rfl) (Ad<|Aj (A3 G8)<|Ac<|By<|Aa.ret (.one (AE rfl))) (Aa.skip<|Ai<|Ab rfl<|Aj (AB (Af rfl))<|Ap (A1 (t:=Ax) (u:=(A2 32 T.u8)) (Af rfl) rfl rfl DR rfl rfl) fun x36=>Al (wA (K:=(A2 32 T.u8)) (V:=T.b) ⟨_,(DT 32 BZ.u8), .inl ⟨rfl,rfl⟩⟩ (Af rfl) rfl (Af rfl) G8) fun x37=>
 Ai<|Aj (AB (Af rfl))<|Ap (A1 (t:=Ax) (u:=(T.sl Ah)) (Af rfl) rfl rfl Ch rfl rfl) fun x38=>Ag (DL (Af rfl)) fun x39=>Aj (A3 AY)<|Ac<|AD<|Aa.loop (id:=2) (σ:=(Int×(List (Ao×Bool)))) (τ:=(List (Ao×Bool))) (fun s40=>⟨[(3, .own 1019),(4, .own 1022),(24, .val (T.sl Ax) x10),(25, .val (T.int .i64) x11),(26, .val (T.int .i64) s12.1),(60, .val (T.sl Ah) x38),(61, .val (T.int .i64) x39),(62, .val (T.int .i64) s40.1)],[(1019, .dom (OG (A2 32 T.u8) T.b) x37),(1022, .dom (OG Ah T.b) s40.2)]⟩) (fun p41=>⟨[(3, .own 1019),(4, .own 1022),(24, .val (T.sl Ax) x10),(25, .val (T.int .i64) x11),(26, .val (T.int .i64) s12.1)],[(1019, .dom (OG (A2 32 T.u8) T.b) x37),(1022, .dom (OG Ah T.b) p41)]⟩) (0,s12.2.2) sB (fun _=>rfl) (fun s40=>Ad<|Ag (A9 rfl (Af rfl) (Af rfl)) fun x42=>Ai<|Aa.cond (Af rfl) (Aa.skip<|Ai<|AD<|Ad<|Aa.op (F7 rfl (Af rfl) (Af rfl)) fun x43=>Ap (Is rfl rfl (Af rfl)) fun x44=>Al (Cn (t:=Ah) 8 rfl rfl) fun x45=>Al (Dg (Af rfl) (Af rfl) rfl rfl (Ay _) rfl) fun x46=>Ai<|Ad<|Ab rfl<|Ap (A1 (t:=Ah) (u:=Ah) (Af rfl) rfl rfl (Ay _) rfl rfl) fun x47=>Ag (h_lkp (K:=Ah) (V:=T.b) ⟨_,Db, .inl ⟨rfl,rfl⟩⟩ (.inr ⟨rfl,rfl⟩) (Af rfl) rfl (Af rfl)) fun x48=>Ac<|Aa.cond (Af rfl) (Ad<|Aj (A3 G8)<|Ac<|By<|By<|Aa.ret (.one (AE rfl))) (Aa.skip<|Ac<|Ab rfl<|Ap (A1 (t:=Ah) (u:=Ah) (Af rfl) rfl rfl (Ay _) rfl rfl) fun x49=>Al (wA (K:=Ah) (V:=T.b) ⟨_,Db, .inl ⟨rfl,rfl⟩⟩ (Af rfl) rfl (Af rfl) G8) fun x50=>AN<|Ac<|Ag (BJ (I:=(IT.int .i64)) (Af rfl) AY) fun x51=>Ab rfl<|Aa.next (x51,x50) sB)) (Bh<|BD s40.2 sB)) (fun p41=>
 Bi<|AN<|Ac<|Ag (BJ (I:=(IT.int .i64)) (Af rfl) AY) fun x52=>Ab rfl<|Aa.next (x52,x37,p41) sB)))) (Bh<|BD s12.2.2 sB)) (fun p13=>Bi<|Ai<|Ab rfl<|Ag (h_lenm (K:=Ah) (V:=T.b) (Af rfl) rfl) fun x53=>Ag (A9 rfl (Af rfl) AY) fun x54=>Ab rfl<|Ac<|Aa.ret (.one (AE rfl))))
theorem WP:Spec tb Gq [Az] [T.b] (fun a=>IK a):=
 Spec.of ZQ rfl rfl rfl UY
noncomputable def J7(a0:AI):Option (GS An):=let x2:=(⟨5,a0.Key,0,Aq.z,Ah.z⟩:An);let x4:=(⟨8,a0.Psk,0,Aq.z,Ah.z⟩:An);let x5:=(⟨13,(A2 32 T.u8).z,(1:UInt64),Aq.z,Ah.z⟩:An);(ET a0.End).bind fun x8=>(if(!x8)=true then let x36:=(⟨9,(A2 32 T.u8).z,0,a0.End,Ah.z⟩:An);(W7 112 (GS.mk [x2,x4,x5]) [x36]).bind fun x38=>some (.inl x38) else some (.inl (GS.mk [x2,x4,x5])):Option ((GS An)⊕_)).bind (Sum.elim (fun(p10:(GS An))=>let x13:=(⟨14,(A2 32 T.u8).z,a0.Sent,Aq.z,Ah.z⟩:An);let x15:=(⟨15,(A2 32 T.u8).z,a0.Got,Aq.z,Ah.z⟩:An);let x18:=(⟨10,(A2 32 T.u8).z,Co a0.Keep,Aq.z,Ah.z⟩:An);(W7 112 p10 [x13,x15,x18]).bind fun x20=>(iter (fun(s23:(Int×(GS An)))=>if(decide (s23.1<(a0.Allowed.l.length:Int)))=true then (ES a0.Allowed.l s23.1).bind fun x26=>let x31:=(⟨12,(A2 32 T.u8).z,0,Aq.z,x26⟩:An);(W7 112 s23.2 [x31]).bind fun x33=>some (.inl (IntKind.i64.wrap (s23.1+1),x33)) else some (.inr (.inl s23.2))) (0,x20)).bind (Sum.elim (fun(p24:(GS An))=>some p24) some)) some)
noncomputable def TO(a:Ce [Ax]):BS tb Jm [Ax] [(T.sl Ae)] a:=Ad<|Al (Bt (t:=Ax) 1 rfl rfl (Af rfl)) fun _=>Aj (A3 (MV (t:=Ae)))<|Aa.turn (born (n:=2) (j:=1002) rfl rfl)<|Ai<|Aj (AB (Af rfl))<|Ap (A1 (t:=Ax) (u:=(A2 32 T.u8)) (Af rfl) rfl rfl DR rfl rfl) fun x1=>Ag (D4 rfl rfl (.cons A7 rfl AY<| .cons Gl rfl (Af rfl)<| .nil _)) fun x2=>Aj (AB (Af rfl))<|Ap (A1 (t:=Ax) (u:=(A2 32 T.u8)) (Af rfl) rfl rfl KZ rfl rfl) fun x3=>Ag (D4 rfl rfl (.cons A7 rfl AY<| .cons Gl rfl (Af rfl)<| .nil _)) fun x4=>Ag (D4 rfl rfl (.cons A7 rfl AY<| .cons BY rfl (Dz 1 rfl)<| .nil _)) fun x5=>Al (M_bls (t:=Ae) (n:=3) 2002 rfl rfl (.cons rfl (Af rfl)<| .cons rfl (Af rfl)<| .cons rfl (Af rfl)<| .nil _) rfl) fun x6=>Ab rfl<|Ai<|Ad<|Aj (AB (Af rfl))<|Ap (A1 (t:=Ax) (u:=Aq) (Af rfl) rfl rfl DS rfl rfl) fun x7=>Aa.op (AF Me (.one (Af rfl))) fun x8=>Ag (EJ (Af rfl)) fun x9=>Ac<|Ih (τ:=(GS An)) (fun p10=>⟨[(1, .cp 1 0),(3, .own 2002)],[(1, .cells [(86, .val Ax a)]),(2002, .row Ae p10)]⟩) (fun p10=>Ai<|Ab rfl<|Aj (AB (Af rfl))<|Ap (A1 (t:=Ax) (u:=T.u64) (Af rfl) rfl rfl JW rfl rfl) fun x12=>Ag (D4 rfl rfl (.cons A7 rfl AY<| .cons BY rfl (Af rfl)<| .nil _)) fun x13=>Aj (AB (Af rfl))<|Ap (A1 (t:=Ax) (u:=T.u64) (Af rfl) rfl rfl La rfl rfl) fun x14=>Ag (D4 rfl rfl (.cons A7 rfl AY<| .cons BY rfl (Af rfl)<| .nil _)) fun x15=>Aj (AB (Af rfl))<|Ap (A1 (t:=Ax) (u:=(T.int .i64)) (Af rfl) rfl rfl Gk rfl rfl) fun x16=>Ag (HZ (I:=(IT.int .i64)) (J:=IT.u64) rfl (Af rfl)) fun x17=>Ag (D4 rfl rfl (.cons A7 rfl AY<| .cons BY rfl (Af rfl)<| .nil _)) fun x18=>
 Ag (NH (t:=Ae) (n:=3) rfl rfl (.cons rfl (Af rfl)<| .cons rfl (Af rfl)<| .cons rfl (Af rfl)<| .nil _)) fun x19=>Cm (NR rfl (Af rfl) rfl (TU (Af rfl))) fun x20=>Ab rfl<|Ai<|Ad<|Aj (AB (Af rfl))<|Ap (A1 (t:=Ax) (u:=(T.sl Ah)) (Af rfl) rfl rfl Ch rfl rfl) fun x21=>Ag (DL (Af rfl)) fun x22=>Aj (A3 AY)<|Ac<|AD<|Aa.loop (id:=0) (σ:=(Int×(GS An))) (τ:=(GS An)) (fun s23=>⟨[(3, .own 2002),(38, .val (T.sl Ah) x21),(39, .val (T.int .i64) x22),(40, .val (T.int .i64) s23.1)],[(2002, .row Ae s23.2)]⟩) (fun p24=>⟨[(3, .own 2002)],[(2002, .row Ae p24)]⟩) (0,x20) sB (fun _=>rfl) (fun s23=>Ad<|Ag (A9 rfl (Af rfl) (Af rfl)) fun x25=>Ai<|Aa.cond (Af rfl) (Aa.skip<|Ai<|AD<|Ad<|Aa.op (F7 rfl (Af rfl) (Af rfl)) fun x26=>Ap (Is rfl rfl (Af rfl)) fun x27=>Al (Cn (t:=Ah) 5 rfl rfl) fun x28=>Al (Dg (Af rfl) (Af rfl) rfl rfl (Ay _) rfl) fun x29=>Ac<|Ab rfl<|Ap (A1 (t:=Ah) (u:=Ah) (Af rfl) rfl rfl (Ay _) rfl rfl) fun x30=>Ag (D4 rfl rfl (.cons A7 rfl AY<| .cons Jq rfl (Af rfl)<| .nil _)) fun x31=>Ag (NH (t:=Ae) (n:=1) rfl rfl (.cons rfl (Af rfl)<| .nil _)) fun x32=>Cm (NR rfl (Af rfl) rfl (TU (Af rfl))) fun x33=>Ab rfl<|AN<|Ac<|Ag (BJ (I:=(IT.int .i64)) (Af rfl) AY) fun x34=>Ab rfl<|Aa.next (x34,x33) sB) (Bh<|BD s23.2 sB)) (fun p24=>Bi<|Ai<|Ab rfl<|Ab rfl<|Ac<|Aa.frzRow 2002 rfl rfl<|Aa.ret (.one (AE rfl))))<|Aa.cond (Af rfl) (Ab rfl<|Aj (AB (Af rfl))<|Ap (A1 (t:=Ax) (u:=Aq) (Af rfl) rfl rfl DS rfl rfl) fun x35=>Ag (D4 rfl rfl (.cons A7 rfl AY<| .cons HJ rfl (Af rfl)<| .nil _)) fun x36=>Ag (NH (t:=Ae) (n:=1) rfl rfl (.cons rfl (Af rfl)<| .nil _)) fun x37=>
 Cm (NR rfl (Af rfl) rfl (TU (Af rfl))) fun x38=>Ab rfl<|Ho x38 sB) (Aa.skip<|Ho (.mk x6) sB)
theorem UV:Spec tb Fx [Ax] [(T.sl Ae)] (fun a=>J7 a):=
 Spec.of X0 rfl rfl rfl TO
noncomputable def FZ(a0:Int):Option AR:=(HO (decide (a0<1)) (some (decide (16<a0)))).bind fun x3=>if x3=true then some [] else (ES oO.l a0).bind fun x4=>some x4
noncomputable def Vb(a:Ce [(T.int .i64)]):BS tb Ky [(T.int .i64)] [A5] a:=Ad<|Aj (A3 Gy)<|Ai<|Ad<|Ab rfl<|Ag (A9 rfl (Af rfl) AY) fun x1=>Ab rfl<|Aa.or 2 rfl rfl rfl (AU (A3 (Af rfl))<|Bf (A9 rfl (Af rfl) AY) fun x2=>Bl.nil (Af rfl)) fun x3=>Ac<|Aa.cond (Af rfl) (Ad<|Aj (A3 Gy)<|Ac<|Aa.ret (.one (AE rfl))) (Aa.skip<|Ai<|Ab rfl<|Aa.op (uE rfl rfl (o_g (t:=(A2 17 A5)) (x:=oO) rfl gm_0 gr_0) (Af rfl)) fun x4=>Ap (Is rfl rfl (Af rfl)) fun x5=>Ab rfl<|Ac<|Aa.ret (.one (AE rfl)))
theorem Gn:Spec tb EZ [(T.int .i64)] [A5] (fun a=>FZ a):=
 Spec.of ZT rfl rfl rfl Vb
noncomputable def GP(a0:(GS UInt8)):Option AR:=(iter (fun(s3:(Int×AR))=>if(decide (s3.1<(a0.l.length:Int)))=true then (ES a0.l s3.1).bind fun x6=>(if((4:UInt64).toNat:Int)<0 then none else some (Ps (Int.fdiv (x6.toNat:Int) (2^(min ((4:UInt64).toNat:Int).toNat 8))))).bind fun x8=>(ES ([48,49,50,51,52,53,54,55,56,57,97,98,99,100,101,102]:AR) (x8.toNat:Int)).bind fun x9=>(Le s3.2 [x9]).bind fun x10=>let x11:=Ps (JE .and .u8 (x6.toNat:Int) ((15:UInt8).toNat:Int));(ES ([48,49,50,51,52,53,54,55,56,57,97,98,99,100,101,102]:AR) (x11.toNat:Int)).bind fun x12=>(Le x10 [x12]).bind fun x13=>some (.inl (IntKind.i64.wrap (s3.1+1),x13)) else some (.inr (.inl s3.2))) (0,[])).bind (Sum.elim (fun(p4:AR)=>(aH false p4).bind fun x15=>some x15) some)
noncomputable def Sc(a:Ce [(T.sl T.u8)]):BS tb Iy [(T.sl T.u8)] [A5] a:=Ad<|Aj (A3 Gy)<|Ai<|Al (kD 3 5 rfl rfl) fun x1=>Ai<|Ad<|Ab rfl<|Ag (DL (Af rfl)) fun x2=>Aj (A3 AY)<|Ac<|AD<|Aa.loop (id:=0) (σ:=(Int×AR)) (τ:=AR) (fun s3=>⟨[(3, .own 3),(6, .val (T.sl T.u8) a),(7, .val (T.int .i64) x2),(8, .val (T.int .i64) s3.1)],[(3, .dom (NB 107 5 false) s3.2)]⟩) (fun p4=>⟨[(3, .own 3)],[(3, .dom (NB 107 5 false) p4)]⟩) (0,x1) sB (fun _=>rfl) (fun s3=>Ad<|Ag (A9 rfl (Af rfl) (Af rfl)) fun x5=>Ai<|Aa.cond (Af rfl) (Aa.skip<|Ai<|AD<|Ad<|Aa.op (F7 rfl (Af rfl) (Af rfl)) fun x6=>Ap (Is rfl rfl (Af rfl)) fun x7=>Ab rfl<|Ai<|Ab rfl<|Aa.op (VO (I:=NT.u8) (J:=IT.u64) (Af rfl) (Dz 4 rfl)) fun x8=>Aa.op (Fu Gy (sY (Af rfl))) fun x9=>Cm (wB Br rfl FA (Af rfl) rfl (Af rfl)) fun x10=>Ac<|Ab rfl<|Ag (uH (I:=IT.u8) (Af rfl) (sW 15 rfl)) fun x11=>Aa.op (Fu Gy (sY (Af rfl))) fun x12=>Cm (wB Br rfl FA (Af rfl) rfl (Af rfl)) fun x13=>AN<|Ac<|Ag (BJ (I:=(IT.int .i64)) (Af rfl) AY) fun x14=>Ab rfl<|Aa.next (x14,x13) sB) (Bh<|BD s3.2 sB)) (fun p4=>Bi<|Ai<|Cm (kC Ez (Af rfl) rfl) fun x15=>Ab rfl<|Ac<|Aa.ret (.one (AE rfl)))
theorem TH:Spec tb EA [(T.sl T.u8)] [A5] (fun a=>GP a):=
 Spec.of Wa rfl rfl rfl Sc
noncomputable def Mt(a0:(Ar UInt8 32)):Option AR:=(if 0+32≤32 then GP (GS.mk ((a0.l.drop 0).take 32))else none).bind fun x1=>some x1
noncomputable def Zk(a:Ce [(A2 32 T.u8)]):BS tb N6 [(A2 32 T.u8)] [A5] a:=Ad<|Al (Bt (t:=(A2 32 T.u8)) 1 rfl rfl (Af rfl)) fun _=>Aj (A3 Gy)<|Ai<|Aj (Nh (k:=0) (m:=32) rfl rfl (Af rfl) .none .none rfl rfl rfl)<|Aa.op (KB (c:=0+32≤32) TH (.cons O7 .nil) (fun hc=> .one (a_s (o:=0) (k:=0) (m:=32) (n:=32) (Ay _) rfl (Af rfl) rfl rfl hc))) fun x1=>Ab rfl<|Ac<|Aa.ret (.one (AE rfl))
theorem bL:Spec tb Ig [(A2 32 T.u8)] [A5] (fun a=>Mt a):=
 Spec.of jL rfl rfl rfl Zk
noncomputable def Fc(a0:An):Option (AR×Bool):=(Mt a0.Key).bind fun x2=>some (x2,true)
noncomputable def QD(a:Ce [Ae]):BS tb HE [Ae] [A5,T.b] a:=Ad<|Al (Bt (t:=Ae) 1 rfl rfl (Af rfl)) fun _=>Aj (A3 Gy)<|Aj (A3 G8)<|Ai<|Aj (AB (Af rfl))<|Ap (A1 (t:=Ae) (u:=(A2 32 T.u8)) (Af rfl) rfl rfl Gl rfl rfl) fun x1=>Aa.op (AF bL (.one (Af rfl))) fun x2=>Ab rfl<|Aj (A3 G8)<|Ac<|Aa.ret (.cons (AE rfl)<| .one (AE rfl))
theorem Mf:Spec tb C7 [Ae] [A5,T.b] (fun a=>Fc a):=
 Spec.of Ur rfl rfl rfl QD
noncomputable def LR(a0:An):Option An:=let x2:=(⟨[0,0,0,0,0,0,0,0,0,0,0,0,0,0,0,0,0,0,0,0,0,0,0,0,0,0,0,0,0,0,0,0],rfl⟩:(Ar UInt8 32));some ({a0 with Key:=x2})
noncomputable def QC(a:Ce [Ae]):BS tb HD [Ae] [Ae] a:=Ad<|Al (Bt (t:=Ae) 1 rfl rfl (Af rfl)) fun _=>Al (Cn (t:=Ae) 2 rfl rfl) fun x1=>Ai<|Ap (iX (t:=T.u8) (⟨[0,0,0,0,0,0,0,0,0,0,0,0,0,0,0,0,0,0,0,0,0,0,0,0,0,0,0,0,0,0,0,0],rfl⟩:(Ar UInt8 32)) rfl (.nil _)) fun x2=>Aj (AB (Af rfl))<|Al (Dg (Af rfl) (Af rfl) rfl rfl Gl rfl) fun x3=>Ai<|Ap (A1 (t:=Ae) (u:=Ae) (Af rfl) rfl rfl (Ay _) rfl rfl) fun x4=>Al (Dg (Af rfl) (Af rfl) rfl rfl (Ay _) rfl) fun x5=>Ac<|Aa.ret (.one (Hk rfl rfl rfl (Ay _) rfl rfl))
theorem RV:Spec tb C6 [Ae] [Ae] (fun a=>LR a):=
 Spec.of Uq rfl rfl rfl QC
noncomputable def FQ(a0:Int):Option AR:=if(decide (a0<10))=true then (UQ [48,49,50,51,52,53,54,55,56,57,97,98,99,100,101,102,103,104,105,106,107,108,109,110,111,112,113,114,115,116,117,118,119,120,121,122] (some a0) (some (IntKind.i64.wrap (a0+1)))).bind fun x3=>some x3 else (UQ E5 (some (IntKind.i64.wrap (a0*2))) (some (IntKind.i64.wrap (IntKind.i64.wrap (a0*2)+2)))).bind fun x7=>some x7
noncomputable def KL(a:Ce [(T.int .i64)]):BS tb DF [(T.int .i64)] [A5] a:=Ad<|Aj (A3 Gy)<|Ai<|Ad<|Ab rfl<|Ag (A9 rfl (Af rfl) AY) fun x1=>Ac<|Aa.cond (Af rfl) (Ad<|Ab rfl<|Ab rfl<|Ag (BJ (I:=(IT.int .i64)) (Af rfl) AY) fun x2=>Aa.op (dT Gy (.some (Af rfl)) (.some (Af rfl))) fun x3=>Ab rfl<|Ac<|Aa.ret (.one (AE rfl))) (Aa.skip<|Ai<|Ab rfl<|Ag (Lr (I:=(IT.int .i64)) (Af rfl) AY) fun x4=>Ab rfl<|Ag (Lr (I:=(IT.int .i64)) (Af rfl) AY) fun x5=>Ag (BJ (I:=(IT.int .i64)) (Af rfl) AY) fun x6=>Aa.op (dT Gy (.some (Af rfl)) (.some (Af rfl))) fun x7=>Ab rfl<|Ac<|Aa.ret (.one (AE rfl)))
theorem Lc:Spec tb Cd [(T.int .i64)] [A5] (fun a=>FQ a):=
 Spec.of LV rfl rfl rfl KL
noncomputable def Gh(a0:UInt64):Option Int:=let x1:=decide (((4294967296:UInt64).toNat:Int)≤(a0.toNat:Int));(if x1=true then (if((32:UInt64).toNat:Int)<0 then none else some (Co (Int.fdiv (a0.toNat:Int) (2^(min ((32:UInt64).toNat:Int).toNat 64))))).bind fun x18=>some (.inl (x18,32)) else some (.inl (a0,0)):Option ((UInt64×Int)⊕_)).bind (Sum.elim (fun(p2:(UInt64×Int))=>let x4:=decide (((65536:UInt64).toNat:Int)≤(p2.1.toNat:Int));(if x4=true then (if((16:UInt64).toNat:Int)<0 then none else some (Co (Int.fdiv (p2.1.toNat:Int) (2^(min ((16:UInt64).toNat:Int).toNat 64))))).bind fun x16=>some (.inl (x16,IntKind.i64.wrap (p2.2+16))) else some (.inl (p2.1,p2.2)):Option ((UInt64×Int)⊕_)).bind (Sum.elim (fun(p5:(UInt64×Int))=>let x7:=decide (((256:UInt64).toNat:Int)≤(p5.1.toNat:Int));(if x7=true then (if((8:UInt64).toNat:Int)<0 then none else some (Co (Int.fdiv (p5.1.toNat:Int) (2^(min ((8:UInt64).toNat:Int).toNat 64))))).bind fun x14=>some (.inl (x14,IntKind.i64.wrap (p5.2+8))) else some (.inl (p5.1,p5.2)):Option ((UInt64×Int)⊕_)).bind (Sum.elim (fun(p8:(UInt64×Int))=>(ES str_1 ((Ps (p8.1.toNat:Int)).toNat:Int)).bind fun x11=>let x13:=IntKind.i64.wrap (p8.2+IntKind.i64.wrap (x11.toNat:Int));some x13) some)) some)) some)
noncomputable def Pm(a:Ce [T.u64]):BS tb G0 [T.u64] [(T.int .i64)] a:=Ad<|Aj (A3 AY)<|Ai<|Ad<|Ab rfl<|Ag (Ey (I:=IT.u64) rfl (Af rfl) (Dz 4294967296 rfl)) fun x1=>Ac<|Ih (τ:=(UInt64×Int)) (fun p2=>⟨[(0, .val T.u64 p2.1),(2, .val (T.int .i64) p2.2)],[]⟩) (fun p2=>Ai<|Ad<|Ab rfl<|Ag (Ey (I:=IT.u64) rfl (Af rfl) (Dz 65536 rfl)) fun x4=>Ac<|Ih (τ:=(UInt64×Int)) (fun p5=>⟨[(0, .val T.u64 p5.1),(2, .val (T.int .i64) p5.2)],[]⟩) (fun p5=>Ai<|Ad<|Ab rfl<|Ag (Ey (I:=IT.u64) rfl (Af rfl) (Dz 256 rfl)) fun x7=>Ac<|Ih (τ:=(UInt64×Int)) (fun p8=>⟨[(0, .val T.u64 p8.1),(2, .val (T.int .i64) p8.2)],[]⟩) (fun p8=>Ai<|Ab rfl<|Ab rfl<|Ag (HZ (I:=IT.u64) (J:=IT.u8) rfl (Af rfl)) fun x10=>Aa.op (Fu Gy (sY (Af rfl))) fun x11=>Ag (HZ (I:=IT.u8) (J:=(IT.int .i64)) rfl (Af rfl)) fun x12=>Ag (BJ (I:=(IT.int .i64)) (Af rfl) (Af rfl)) fun x13=>Ab rfl<|Ac<|Aa.ret (.one (AE rfl)))<|Aa.cond (Af rfl) (Ad<|Ab rfl<|Aa.op (VO (I:=NT.u64) (J:=IT.u64) (Af rfl) (Dz 8 rfl)) fun x14=>Ab rfl<|Ac<|Ab rfl<|Ag (BJ (I:=(IT.int .i64)) (Af rfl) AY) fun x15=>Ab rfl<|Ho (x14,x15) sB) (Aa.skip<|Ho (p5.1,p5.2) sB))<|Aa.cond (Af rfl) (Ad<|Ab rfl<|Aa.op (VO (I:=NT.u64) (J:=IT.u64) (Af rfl) (Dz 16 rfl)) fun x16=>Ab rfl<|Ac<|Ab rfl<|Ag (BJ (I:=(IT.int .i64)) (Af rfl) AY) fun x17=>Ab rfl<|Ho (x16,x17) sB) (Aa.skip<|Ho (p2.1,p2.2) sB))<|Aa.cond (Af rfl) (Ad<|Ab rfl<|Aa.op (VO (I:=NT.u64) (J:=IT.u64) (Af rfl) (Dz 32 rfl)) fun x18=>Ab rfl<|Ac<|Aj (A3 AY)<|Ho (x18,32) sB) (Aa.skip<|Ho (a,0) sB)
theorem PL:Spec tb D5 [T.u64] [(T.int .i64)] (fun a=>Gh a):=
 Spec.of Rq rfl rfl rfl Pm
noncomputable def Dr(a0:Int):Option Int:=(if((18:UInt64).toNat:Int)<0 then none else some (Int.fdiv (IntKind.i64.wrap (a0*78913)) (2^(min ((18:UInt64).toNat:Int).toNat 64)))).bind fun x2=>some x2
noncomputable def IP(a:Ce [(T.int .i64)]):BS tb CX [(T.int .i64)] [(T.int .i64)] a:=Ad<|Aj (A3 AY)<|Ai<|Ab rfl<|Ag (Lr (I:=(IT.int .i64)) (Af rfl) AY) fun x1=>Aa.op (h_shr (J:=IT.u64) (Af rfl) (Dz 18 rfl)) fun x2=>Ab rfl<|Ac<|Aa.ret (.one (AE rfl))
theorem Jw:Spec tb BG [(T.int .i64)] [(T.int .i64)] (fun a=>Dr a):=
 Spec.of JR rfl rfl rfl IP
noncomputable def Ew(a0:Bool):Option Int:=if a0=true then some 1 else some 0
noncomputable def IQ(a:Ce [T.b]):BS tb CY [T.b] [(T.int .i64)] a:=Ad<|Aj (A3 AY)<|Ai<|Ad<|Ab rfl<|Ac<|Aa.cond (Af rfl) (Ad<|Aj (A3 AY)<|Ac<|Aa.ret (.one (AE rfl))) (Aa.skip<|Ai<|Aj (A3 AY)<|Ac<|Aa.ret (.one (AE rfl)))
theorem Jx:Spec tb BH [T.b] [(T.int .i64)] (fun a=>Ew a):=
 Spec.of JS rfl rfl rfl IQ
noncomputable def Dq(a0:UInt64):Option Int:=(Gh a0).bind fun x1=>(Dr x1).bind fun x2=>(ES iY.l x2).bind fun x3=>(Ew (decide ((x3.toNat:Int)≤(a0.toNat:Int)))).bind fun x6=>some (IntKind.i64.wrap (x2+x6))
noncomputable def IN(a:Ce [T.u64]):BS tb CW [T.u64] [(T.int .i64)] a:=Ad<|Aj (A3 AY)<|Ai<|Ab rfl<|Aa.op (AF PL (.one (Af rfl))) fun x1=>Aa.op (AF Jw (.one (Af rfl))) fun x2=>Ab rfl<|Ai<|Ab rfl<|Ab rfl<|Ab rfl<|Aa.op (uE rfl rfl (o_g (t:=(A2 20 T.u64)) (x:=iY) rfl gm_2 gr_2) (Af rfl)) fun x3=>Ap (Is rfl rfl (Af rfl)) fun x4=>Ag (Ey (I:=IT.u64) rfl (Af rfl) (Af rfl)) fun x5=>Aa.op (AF Jx (.one (Af rfl))) fun x6=>Ag (BJ (I:=(IT.int .i64)) (Af rfl) (Af rfl)) fun x7=>Ab rfl<|Ac<|Aa.ret (.one (AE rfl))
theorem Jv:Spec tb BF [T.u64] [(T.int .i64)] (fun a=>Dq a):=
 Spec.of JQ rfl rfl rfl IN
noncomputable def BP(a0:UInt64)(a1:Int):Option AR:=if(decide (a1=10))=true then let x2:=decide ((a0.toNat:Int)<((100:UInt64).toNat:Int));if x2=true then (FQ (IntKind.i64.wrap (a0.toNat:Int))).bind fun x4=>some x4 else (Dq a0).bind fun x6=>((RO 24 none (some x6)).map fun p=>p.2).bind fun x7=>((iter (fun(s10:(UInt64×Int×(Ar UInt8 24)))=>if(decide (8≤s10.2.1))=true then (if((100000000:UInt64).toNat:Int)=0 then none else some (Co (Int.tmod (s10.1.toNat:Int) ((100000000:UInt64).toNat:Int)))).bind fun x13=>(if((100000000:UInt64).toNat:Int)=0 then none else some (Co (Int.tdiv (s10.1.toNat:Int) ((100000000:UInt64).toNat:Int)))).bind fun x15=>(if((10000:UInt32).toNat:Int)=0 then none else some (CP (Int.tdiv ((CP (x13.toNat:Int)).toNat:Int) ((10000:UInt32).toNat:Int)))).bind fun x16=>(if((10000:UInt32).toNat:Int)=0 then none else some (CP (Int.tmod ((CP (x13.toNat:Int)).toNat:Int) ((10000:UInt32).toNat:Int)))).bind fun x17=>(if((100:UInt32).toNat:Int)=0 then none else some (CP (Int.tdiv (x17.toNat:Int) ((100:UInt32).toNat:Int)))).bind fun x18=>let x19:=CP ((x18.toNat:Int)*((2:UInt32).toNat:Int));(if((100:UInt32).toNat:Int)=0 then none else some (CP (Int.tmod (x17.toNat:Int) ((100:UInt32).toNat:Int)))).bind fun x20=>let x21:=CP ((x20.toNat:Int)*((2:UInt32).toNat:Int));(if((100:UInt32).toNat:Int)=0 then none else some (CP (Int.tdiv (x16.toNat:Int) ((100:UInt32).toNat:Int)))).bind fun x22=>let x23:=CP ((x22.toNat:Int)*((2:UInt32).toNat:Int));(if((100:UInt32).toNat:Int)=0 then none else some (CP (Int.tmod (x16.toNat:Int) ((100:UInt32).toNat:Int)))).bind fun x24=>
 let x25:=CP ((x24.toNat:Int)*((2:UInt32).toNat:Int));let x28:=CP ((x21.toNat:Int)+((1:UInt32).toNat:Int));(ES E5 (x28.toNat:Int)).bind fun x29=>(ES E5 (x21.toNat:Int)).bind fun x30=>(if 0+x7*1≤24 then Ft x7 (IntKind.i64.wrap (s10.2.1-1))else none).bind fun x31=>(if x31<24 then some (s10.2.2.set x31 x29)else none).bind fun x32=>(if 0+x7*1≤24 then Ft x7 (IntKind.i64.wrap (s10.2.1-2))else none).bind fun x33=>(if x33<24 then some (x32.set x33 x30)else none).bind fun x34=>let x37:=CP ((x19.toNat:Int)+((1:UInt32).toNat:Int));(ES E5 (x37.toNat:Int)).bind fun x38=>(ES E5 (x19.toNat:Int)).bind fun x39=>(if 0+x7*1≤24 then Ft x7 (IntKind.i64.wrap (s10.2.1-3))else none).bind fun x40=>(if x40<24 then some (x34.set x40 x38)else none).bind fun x41=>(if 0+x7*1≤24 then Ft x7 (IntKind.i64.wrap (s10.2.1-4))else none).bind fun x42=>(if x42<24 then some (x41.set x42 x39)else none).bind fun x43=>let x46:=CP ((x25.toNat:Int)+((1:UInt32).toNat:Int));(ES E5 (x46.toNat:Int)).bind fun x47=>(ES E5 (x25.toNat:Int)).bind fun x48=>(if 0+x7*1≤24 then Ft x7 (IntKind.i64.wrap (s10.2.1-5))else none).bind fun x49=>(if x49<24 then some (x43.set x49 x47)else none).bind fun x50=>(if 0+x7*1≤24 then Ft x7 (IntKind.i64.wrap (s10.2.1-6))else none).bind fun x51=>(if x51<24 then some (x50.set x51 x48)else none).bind fun x52=>let x55:=CP ((x23.toNat:Int)+((1:UInt32).toNat:Int));(ES E5 (x55.toNat:Int)).bind fun x56=>(ES E5 (x23.toNat:Int)).bind fun x57=>(if 0+x7*1≤24 then Ft x7 (IntKind.i64.wrap (s10.2.1-7))else none).bind fun x58=>
 (if x58<24 then some (x52.set x58 x56)else none).bind fun x59=>(if 0+x7*1≤24 then Ft x7 (IntKind.i64.wrap (s10.2.1-8))else none).bind fun x60=>(if x60<24 then some (x59.set x60 x57)else none).bind fun x61=>some (.inl (x15,IntKind.i64.wrap (s10.2.1-8),x61)) else some (.inr (.inl (s10.1,s10.2.1,s10.2.2)))) (a0,((x7:Nat):Int),(A2 24 T.u8).z)).bind (Sum.elim (fun(p11:(UInt64×Int×(Ar UInt8 24)))=>(if(decide (4≤p11.2.1))=true then (if((10000:UInt32).toNat:Int)=0 then none else some (CP (Int.tmod ((CP (p11.1.toNat:Int)).toNat:Int) ((10000:UInt32).toNat:Int)))).bind fun x88=>(if((10000:UInt32).toNat:Int)=0 then none else some (CP (Int.tdiv ((CP (p11.1.toNat:Int)).toNat:Int) ((10000:UInt32).toNat:Int)))).bind fun x89=>(if((100:UInt32).toNat:Int)=0 then none else some (CP (Int.tdiv (x88.toNat:Int) ((100:UInt32).toNat:Int)))).bind fun x90=>let x91:=CP ((x90.toNat:Int)*((2:UInt32).toNat:Int));(if((100:UInt32).toNat:Int)=0 then none else some (CP (Int.tmod (x88.toNat:Int) ((100:UInt32).toNat:Int)))).bind fun x92=>let x93:=CP ((x92.toNat:Int)*((2:UInt32).toNat:Int));let x96:=CP ((x93.toNat:Int)+((1:UInt32).toNat:Int));(ES E5 (x96.toNat:Int)).bind fun x97=>(ES E5 (x93.toNat:Int)).bind fun x98=>(if 0+x7*1≤24 then Ft x7 (IntKind.i64.wrap (p11.2.1-1))else none).bind fun x99=>(if x99<24 then some (p11.2.2.set x99 x97)else none).bind fun x100=>(if 0+x7*1≤24 then Ft x7 (IntKind.i64.wrap (p11.2.1-2))else none).bind fun x101=>(if x101<24 then some (x100.set x101 x98)else none).bind fun x102=>let x105:=CP ((x91.toNat:Int)+((1:UInt32).toNat:Int))
 (ES E5 (x105.toNat:Int)).bind fun x106=>(ES E5 (x91.toNat:Int)).bind fun x107=>(if 0+x7*1≤24 then Ft x7 (IntKind.i64.wrap (p11.2.1-3))else none).bind fun x108=>(if x108<24 then some (x102.set x108 x106)else none).bind fun x109=>(if 0+x7*1≤24 then Ft x7 (IntKind.i64.wrap (p11.2.1-4))else none).bind fun x110=>(if x110<24 then some (x109.set x110 x107)else none).bind fun x111=>some (.inl (IntKind.i64.wrap (p11.2.1-4),x89,x111)) else some (.inl (p11.2.1,CP (p11.1.toNat:Int),p11.2.2)):Option ((Int×UInt32×(Ar UInt8 24))⊕_)).bind (Sum.elim (fun(p65:(Int×UInt32×(Ar UInt8 24)))=>(if(decide (2≤p65.1))=true then (if((100:UInt32).toNat:Int)=0 then none else some (CP (Int.tmod (p65.2.1.toNat:Int) ((100:UInt32).toNat:Int)))).bind fun x75=>let x76:=CP ((x75.toNat:Int)*((2:UInt32).toNat:Int));(if((100:UInt32).toNat:Int)=0 then none else some (CP (Int.tdiv (p65.2.1.toNat:Int) ((100:UInt32).toNat:Int)))).bind fun x77=>let x80:=CP ((x76.toNat:Int)+((1:UInt32).toNat:Int));(ES E5 (x80.toNat:Int)).bind fun x81=>(ES E5 (x76.toNat:Int)).bind fun x82=>(if 0+x7*1≤24 then Ft x7 (IntKind.i64.wrap (p65.1-1))else none).bind fun x83=>(if x83<24 then some (p65.2.2.set x83 x81)else none).bind fun x84=>(if 0+x7*1≤24 then Ft x7 (IntKind.i64.wrap (p65.1-2))else none).bind fun x85=>(if x85<24 then some (x84.set x85 x82)else none).bind fun x86=>some (.inl (IntKind.i64.wrap (p65.1-2),x77,x86)) else some (.inl (p65.1,p65.2.1,p65.2.2)):Option ((Int×UInt32×(Ar UInt8 24))⊕_)).bind (Sum.elim (fun(p68:(Int×UInt32×(Ar UInt8 24)))=>
 if(decide (0<p68.1))=true then let x71:=CP (((48:UInt32).toNat:Int)+(p68.2.1.toNat:Int));(if 0+x7*1≤24 then Ft x7 0 else none).bind fun x73=>(if x73<24 then some (p68.2.2.set x73 (Ps (x71.toNat:Int)))else none).bind fun x74=>some x74 else some p68.2.2) some)) some)) some):Option (Ar UInt8 24)).bind (fun(p8:(Ar UInt8 24))=>((RO 24 none (some x6)).map fun p=>p.2).bind fun x113=>(uL p8.l 0 x113 24).bind fun x114=>some x114.l) else none
noncomputable def IB(a:Ce [T.u64,(T.int .i64)]):BS tb CL [T.u64,(T.int .i64)] [A5] a:=Ad<|Aj (A3 Gy)<|Ai<|Ad<|Ab rfl<|Ag (A9 rfl (Af rfl) AY) fun x1=>Ac<|Aa.cond (Af rfl) (Ad<|Ad<|Ab rfl<|Ag (Ey (I:=IT.u64) rfl (Af rfl) (Dz 100 rfl)) fun x2=>Ac<|Aa.cond (Af rfl) (Ad<|Ab rfl<|Ag (HZ (I:=IT.u64) (J:=(IT.int .i64)) rfl (Af rfl)) fun x3=>Aa.op (AF Lc (.one (Af rfl))) fun x4=>Ab rfl<|Ac<|Aa.ret (.one (AE rfl))) (Aa.skip<|Ai<|Al (Cn (t:=(A2 24 T.u8)) 5 rfl rfl) fun x5=>Ai<|Ab rfl<|Aa.op (AF Jv (.one (Af rfl))) fun x6=>Ab rfl<|Ai<|Ab rfl<|Aa.op (iW rfl rfl (Af rfl) (.some (Af rfl))) fun x7=>Ab rfl<|Aa.inl (τ:=(Ar UInt8 24)) (φs:=[.oc 5 0 1 x7, .val T.u64 a.1]) (n:=0) (L:=[(5, .cp 5 0),(6, .val (T.int .i64) x6)]) (Γr:=(fun p8=>⟨[],[(5, .cells [(24, .val (A2 24 T.u8) p8)]),uX,(2000006, .ghost (.val (T.int .i64) x6))]⟩)) 2000000 (fun p8=>⟨[(21, .tup []),(5, .cp 5 0),(6, .val (T.int .i64) x6)],[(5, .cells [(24, .val (A2 24 T.u8) p8)])]⟩) II rfl rfl rfl (Fg rfl) (.cons (MP (Af rfl))<| .cons (MP (Af rfl))<| .nil) sB rfl (Ad<|Ab rfl<|Ag (h_lenC (Af rfl)) fun x9=>Ab rfl<|Ai<|AD<|Aa.loop (id:=0) (σ:=(UInt64×Int×(Ar UInt8 24))) (τ:=(UInt64×Int×(Ar UInt8 24))) (fun s10=>⟨[(0, .oc 5 0 1 x7),(1, .val T.u64 s10.1),(4, .val (T.int .i64) s10.2.1)],[(5, .cells [(24, .val (A2 24 T.u8) s10.2.2)]),uX,(2000006, .ghost (.val (T.int .i64) x6))]⟩) (fun p11=>⟨[(0, .oc 5 0 1 x7),(1, .val T.u64 p11.1),(4, .val (T.int .i64) p11.2.1)],[(5, .cells [(24, .val (A2 24 T.u8) p11.2.2)]),uX,(2000006, .ghost (.val (T.int .i64) x6))]⟩) (a.1,x9,x5) sB (fun _=>rfl) (fun s10=>
 Ad<|Ad<|Ab rfl<|Ag (A9 rfl (Af rfl) AY) fun x12=>Ac<|Aa.cond (Af rfl) (Aa.skip<|Ac<|AD<|Ad<|Ab rfl<|Aa.op (Qm (I:=NT.u64) (Af rfl) (Dz 100000000 rfl)) fun x13=>Ag (HZ (I:=IT.u64) (J:=IT.u32) rfl (Af rfl)) fun x14=>Ab rfl<|Ai<|Ab rfl<|Aa.op (M0 (I:=IT.u64) (Af rfl) (Dz 100000000 rfl)) fun x15=>Ab rfl<|Ai<|Ab rfl<|Aa.op (M0 (I:=IT.u32) (Af rfl) (Fq 10000 rfl)) fun x16=>Ab rfl<|Aa.op (Qm (I:=NT.u32) (Af rfl) (Fq 10000 rfl)) fun x17=>Ab rfl<|Ab rfl<|Ai<|Ab rfl<|Aa.op (M0 (I:=IT.u32) (Af rfl) (Fq 100 rfl)) fun x18=>Ag (Lr (I:=IT.u32) (Af rfl) (Fq 2 rfl)) fun x19=>Ab rfl<|Aa.op (Qm (I:=NT.u32) (Af rfl) (Fq 100 rfl)) fun x20=>Ag (Lr (I:=IT.u32) (Af rfl) (Fq 2 rfl)) fun x21=>Ab rfl<|Ab rfl<|Ai<|Ab rfl<|Aa.op (M0 (I:=IT.u32) (Af rfl) (Fq 100 rfl)) fun x22=>Ag (Lr (I:=IT.u32) (Af rfl) (Fq 2 rfl)) fun x23=>Ab rfl<|Aa.op (Qm (I:=NT.u32) (Af rfl) (Fq 100 rfl)) fun x24=>Ag (Lr (I:=IT.u32) (Af rfl) (Fq 2 rfl)) fun x25=>Ab rfl<|Ab rfl<|Ai<|Aa.regd 2<|A6 rfl (A3 (Af rfl))<|A6 rfl (A3 (Af rfl))<|BB rfl (Ei (I:=(IT.int .i64)) (Af rfl) AY) fun x26=>A6 rfl (A3 (Af rfl))<|A6 rfl (A3 (Af rfl))<|BB rfl (Ei (I:=(IT.int .i64)) (Af rfl) AY) fun x27=>A6 rfl (A3 (Af rfl))<|BB rfl (BJ (I:=IT.u32) (Af rfl) (Fq 1 rfl)) fun x28=>A8.op rfl (Fu Gy (Ll (Af rfl))) fun x29=>A6 rfl (A3 (Af rfl))<|A8.op rfl (Fu Gy (Ll (Af rfl))) fun x30=>A8.op rfl (HQ 24 rfl rfl (Af rfl) (Af rfl)) fun x31=>DP rfl (fun _=> .nil) (.nil) (Ii (s:=(A2 24 T.u8)) (Ay _) rfl (Af rfl) (Af rfl) rfl rfl) fun x32=>A8.op rfl (HQ 24 rfl rfl (Af rfl) (Af rfl)) fun x33=>
 DP rfl (fun _=> .nil) (.nil) (Ii (s:=(A2 24 T.u8)) (Ay _) rfl (Af rfl) (Af rfl) rfl rfl) fun x34=>CO<|Ai<|Aa.regd 2<|A6 rfl (A3 (Af rfl))<|A6 rfl (A3 (Af rfl))<|BB rfl (Ei (I:=(IT.int .i64)) (Af rfl) AY) fun x35=>A6 rfl (A3 (Af rfl))<|A6 rfl (A3 (Af rfl))<|BB rfl (Ei (I:=(IT.int .i64)) (Af rfl) AY) fun x36=>A6 rfl (A3 (Af rfl))<|BB rfl (BJ (I:=IT.u32) (Af rfl) (Fq 1 rfl)) fun x37=>A8.op rfl (Fu Gy (Ll (Af rfl))) fun x38=>A6 rfl (A3 (Af rfl))<|A8.op rfl (Fu Gy (Ll (Af rfl))) fun x39=>A8.op rfl (HQ 24 rfl rfl (Af rfl) (Af rfl)) fun x40=>DP rfl (fun _=> .nil) (.nil) (Ii (s:=(A2 24 T.u8)) (Ay _) rfl (Af rfl) (Af rfl) rfl rfl) fun x41=>A8.op rfl (HQ 24 rfl rfl (Af rfl) (Af rfl)) fun x42=>DP rfl (fun _=> .nil) (.nil) (Ii (s:=(A2 24 T.u8)) (Ay _) rfl (Af rfl) (Af rfl) rfl rfl) fun x43=>CO<|Ai<|Aa.regd 2<|A6 rfl (A3 (Af rfl))<|A6 rfl (A3 (Af rfl))<|BB rfl (Ei (I:=(IT.int .i64)) (Af rfl) AY) fun x44=>A6 rfl (A3 (Af rfl))<|A6 rfl (A3 (Af rfl))<|BB rfl (Ei (I:=(IT.int .i64)) (Af rfl) AY) fun x45=>A6 rfl (A3 (Af rfl))<|BB rfl (BJ (I:=IT.u32) (Af rfl) (Fq 1 rfl)) fun x46=>A8.op rfl (Fu Gy (Ll (Af rfl))) fun x47=>A6 rfl (A3 (Af rfl))<|A8.op rfl (Fu Gy (Ll (Af rfl))) fun x48=>A8.op rfl (HQ 24 rfl rfl (Af rfl) (Af rfl)) fun x49=>DP rfl (fun _=> .nil) (.nil) (Ii (s:=(A2 24 T.u8)) (Ay _) rfl (Af rfl) (Af rfl) rfl rfl) fun x50=>A8.op rfl (HQ 24 rfl rfl (Af rfl) (Af rfl)) fun x51=>DP rfl (fun _=> .nil) (.nil) (Ii (s:=(A2 24 T.u8)) (Ay _) rfl (Af rfl) (Af rfl) rfl rfl) fun x52=>CO<|Ai<|Aa.regd 2<|A6 rfl (A3 (Af rfl))<|
 A6 rfl (A3 (Af rfl))<|BB rfl (Ei (I:=(IT.int .i64)) (Af rfl) AY) fun x53=>A6 rfl (A3 (Af rfl))<|A6 rfl (A3 (Af rfl))<|BB rfl (Ei (I:=(IT.int .i64)) (Af rfl) AY) fun x54=>A6 rfl (A3 (Af rfl))<|BB rfl (BJ (I:=IT.u32) (Af rfl) (Fq 1 rfl)) fun x55=>A8.op rfl (Fu Gy (Ll (Af rfl))) fun x56=>A6 rfl (A3 (Af rfl))<|A8.op rfl (Fu Gy (Ll (Af rfl))) fun x57=>A8.op rfl (HQ 24 rfl rfl (Af rfl) (Af rfl)) fun x58=>DP rfl (fun _=> .nil) (.nil) (Ii (s:=(A2 24 T.u8)) (Ay _) rfl (Af rfl) (Af rfl) rfl rfl) fun x59=>A8.op rfl (HQ 24 rfl rfl (Af rfl) (Af rfl)) fun x60=>DP rfl (fun _=> .nil) (.nil) (Ii (s:=(A2 24 T.u8)) (Ay _) rfl (Af rfl) (Af rfl) rfl rfl) fun x61=>CO<|Ac<|Ab rfl<|Ag (Ei (I:=(IT.int .i64)) (Af rfl) AY) fun x62=>Ab rfl<|AN<|Aa.next (x15,x62,x61) sB) (Bh<|BD (s10.1,s10.2.1,s10.2.2) sB)) (fun p11=>Bi<|Ai<|Ab rfl<|Ag (HZ (I:=IT.u64) (J:=IT.u32) rfl (Af rfl)) fun x63=>Ab rfl<|Ai<|Ad<|Ab rfl<|Ag (A9 rfl (Af rfl) AY) fun x64=>Ac<|Ih (τ:=(Int×UInt32×(Ar UInt8 24))) (fun p65=>⟨[(0, .oc 5 0 1 x7),(4, .val (T.int .i64) p65.1),(12, .val T.u32 p65.2.1)],[(5, .cells [(24, .val (A2 24 T.u8) p65.2.2)]),uX,(2000006, .ghost (.val (T.int .i64) x6))]⟩) (fun p65=>Ai<|Ad<|Ab rfl<|Ag (A9 rfl (Af rfl) AY) fun x67=>Ac<|Ih (τ:=(Int×UInt32×(Ar UInt8 24))) (fun p68=>⟨[(0, .oc 5 0 1 x7),(4, .val (T.int .i64) p68.1),(12, .val T.u32 p68.2.1)],[(5, .cells [(24, .val (A2 24 T.u8) p68.2.2)]),uX,(2000006, .ghost (.val (T.int .i64) x6))]⟩) (fun p68=>Ai<|Ab rfl<|Ag (A9 rfl (Af rfl) AY) fun x70=>Ac<|Aa.cond (Af rfl) (
 Ab rfl<|Ab rfl<|Ag (BJ (I:=IT.u32) (Fq 48 rfl) (Af rfl)) fun x71=>Ag (HZ (I:=IT.u32) (J:=IT.u8) rfl (Af rfl)) fun x72=>Aa.op (HQ 24 rfl rfl (Af rfl) AY) fun x73=>Cm (Ii (s:=(A2 24 T.u8)) (Ay _) rfl (Af rfl) (Af rfl) rfl rfl) fun x74=>YJ x74 (.nil) sB) (Aa.skip<|YJ p68.2.2 (.nil) sB))<|Aa.cond (Af rfl) (Ad<|Ab rfl<|Aa.op (Qm (I:=NT.u32) (Af rfl) (Fq 100 rfl)) fun x75=>Ag (Lr (I:=IT.u32) (Af rfl) (Fq 2 rfl)) fun x76=>Ab rfl<|Ai<|Ab rfl<|Aa.op (M0 (I:=IT.u32) (Af rfl) (Fq 100 rfl)) fun x77=>Ab rfl<|Ai<|Aa.regd 2<|A6 rfl (A3 (Af rfl))<|A6 rfl (A3 (Af rfl))<|BB rfl (Ei (I:=(IT.int .i64)) (Af rfl) AY) fun x78=>A6 rfl (A3 (Af rfl))<|A6 rfl (A3 (Af rfl))<|BB rfl (Ei (I:=(IT.int .i64)) (Af rfl) AY) fun x79=>A6 rfl (A3 (Af rfl))<|BB rfl (BJ (I:=IT.u32) (Af rfl) (Fq 1 rfl)) fun x80=>A8.op rfl (Fu Gy (Ll (Af rfl))) fun x81=>A6 rfl (A3 (Af rfl))<|A8.op rfl (Fu Gy (Ll (Af rfl))) fun x82=>A8.op rfl (HQ 24 rfl rfl (Af rfl) (Af rfl)) fun x83=>DP rfl (fun _=> .nil) (.nil) (Ii (s:=(A2 24 T.u8)) (Ay _) rfl (Af rfl) (Af rfl) rfl rfl) fun x84=>A8.op rfl (HQ 24 rfl rfl (Af rfl) (Af rfl)) fun x85=>DP rfl (fun _=> .nil) (.nil) (Ii (s:=(A2 24 T.u8)) (Ay _) rfl (Af rfl) (Af rfl) rfl rfl) fun x86=>CO<|Ac<|Ab rfl<|Ag (Ei (I:=(IT.int .i64)) (Af rfl) AY) fun x87=>Ab rfl<|Ho (x87,x77,x86) sB) (Aa.skip<|Ho (p65.1,p65.2.1,p65.2.2) sB))<|Aa.cond (Af rfl) (Ad<|Ab rfl<|Aa.op (Qm (I:=NT.u32) (Af rfl) (Fq 10000 rfl)) fun x88=>Ab rfl<|Ai<|Ab rfl<|Aa.op (M0 (I:=IT.u32) (Af rfl) (Fq 10000 rfl)) fun x89=>Ab rfl<|Ai<|Ab rfl<|
 Aa.op (M0 (I:=IT.u32) (Af rfl) (Fq 100 rfl)) fun x90=>Ag (Lr (I:=IT.u32) (Af rfl) (Fq 2 rfl)) fun x91=>Ab rfl<|Aa.op (Qm (I:=NT.u32) (Af rfl) (Fq 100 rfl)) fun x92=>Ag (Lr (I:=IT.u32) (Af rfl) (Fq 2 rfl)) fun x93=>Ab rfl<|Ab rfl<|Ai<|Aa.regd 2<|A6 rfl (A3 (Af rfl))<|A6 rfl (A3 (Af rfl))<|BB rfl (Ei (I:=(IT.int .i64)) (Af rfl) AY) fun x94=>A6 rfl (A3 (Af rfl))<|A6 rfl (A3 (Af rfl))<|BB rfl (Ei (I:=(IT.int .i64)) (Af rfl) AY) fun x95=>A6 rfl (A3 (Af rfl))<|BB rfl (BJ (I:=IT.u32) (Af rfl) (Fq 1 rfl)) fun x96=>A8.op rfl (Fu Gy (Ll (Af rfl))) fun x97=>A6 rfl (A3 (Af rfl))<|A8.op rfl (Fu Gy (Ll (Af rfl))) fun x98=>A8.op rfl (HQ 24 rfl rfl (Af rfl) (Af rfl)) fun x99=>DP rfl (fun _=> .nil) (.nil) (Ii (s:=(A2 24 T.u8)) (Ay _) rfl (Af rfl) (Af rfl) rfl rfl) fun x100=>A8.op rfl (HQ 24 rfl rfl (Af rfl) (Af rfl)) fun x101=>DP rfl (fun _=> .nil) (.nil) (Ii (s:=(A2 24 T.u8)) (Ay _) rfl (Af rfl) (Af rfl) rfl rfl) fun x102=>CO<|Ai<|Aa.regd 2<|A6 rfl (A3 (Af rfl))<|A6 rfl (A3 (Af rfl))<|BB rfl (Ei (I:=(IT.int .i64)) (Af rfl) AY) fun x103=>A6 rfl (A3 (Af rfl))<|A6 rfl (A3 (Af rfl))<|BB rfl (Ei (I:=(IT.int .i64)) (Af rfl) AY) fun x104=>A6 rfl (A3 (Af rfl))<|BB rfl (BJ (I:=IT.u32) (Af rfl) (Fq 1 rfl)) fun x105=>A8.op rfl (Fu Gy (Ll (Af rfl))) fun x106=>A6 rfl (A3 (Af rfl))<|A8.op rfl (Fu Gy (Ll (Af rfl))) fun x107=>A8.op rfl (HQ 24 rfl rfl (Af rfl) (Af rfl)) fun x108=>DP rfl (fun _=> .nil) (.nil) (Ii (s:=(A2 24 T.u8)) (Ay _) rfl (Af rfl) (Af rfl) rfl rfl) fun x109=>A8.op rfl (HQ 24 rfl rfl (Af rfl) (Af rfl)) fun x110=>
 DP rfl (fun _=> .nil) (.nil) (Ii (s:=(A2 24 T.u8)) (Ay _) rfl (Af rfl) (Af rfl) rfl rfl) fun x111=>CO<|Ac<|Ab rfl<|Ag (Ei (I:=(IT.int .i64)) (Af rfl) AY) fun x112=>Ab rfl<|Ho (x112,x89,x111) sB) (Aa.skip<|Ho (p11.2.1,x63,p11.2.2) sB))) (fun p8=>AW sB rfl .none trivial sB) (.one fun p8=>Ai<|Ab rfl<|Aa.op (iW rfl rfl (Af rfl) (.some (Af rfl))) fun x113=>Aa.frzSl (o:=0) (k:=0) (m:=x113) (t:=(A2 24 T.u8)) (u:=T.u8) 23 (Ay _) rfl rfl rfl rfl fun x114=>Ag (h_cvs (Af rfl)) fun x115=>Ab rfl<|Ac<|Aa.ret (.one (AE rfl))))) (Aa.skip<|Ai<|Ab rfl<|Ab rfl<|Aa.stop)
theorem IM:Spec tb B9 [T.u64,(T.int .i64)] [A5] (fun a=>BP a.1 a.2):=
 Spec.of JA rfl rfl rfl IB
noncomputable def HL(a0:UInt64)(a1:Int):Option AR:=(BP a0 a1).bind fun x1=>some x1
noncomputable def MO(a:Ce [T.u64,(T.int .i64)]):BS tb EO [T.u64,(T.int .i64)] [A5] a:=Ad<|Aj (A3 Gy)<|Ai<|Ab rfl<|Ab rfl<|Aa.op (AF IM (.cons (Af rfl)<| .one (Af rfl))) fun x1=>Ab rfl<|Ac<|Aa.ret (.one (AE rfl))
theorem NS:Spec tb CN [T.u64,(T.int .i64)] [A5] (fun a=>HL a.1 a.2):=
 Spec.of O8 rfl rfl rfl MO
noncomputable def Dt(a0:UInt64):Option AR:=(HL a0 10).bind fun x1=>some x1
noncomputable def Si(a:Ce [T.u64]):BS tb I6 [T.u64] [A5] a:=Ad<|Aj (A3 Gy)<|Ai<|Ab rfl<|Aa.op (AF NS (.cons (Af rfl)<| .one AY)) fun x1=>Ab rfl<|Ac<|Aa.ret (.one (AE rfl))
theorem Gg:Spec tb CV [T.u64] [A5] (fun a=>Dt a):=
 Spec.of Wg rfl rfl rfl Si
noncomputable def Il(a0:(GS AR))(a1:AR):Option AR:=if(decide ((a0.l.length:Int)=0))=true then some [] else if(decide ((a0.l.length:Int)=1))=true then (ES a0.l 0).bind fun x4=>some x4 else (if(decide (0<(a1.length:Int)))=true then (if IntKind.i64.wrap ((a0.l.length:Int)-1)=0 then none else some (IntKind.i64.wrap (Int.tdiv 9223372036854775807 (IntKind.i64.wrap ((a0.l.length:Int)-1))))).bind fun x41=>if(decide (x41≤(a1.length:Int)))=true then none else let x46:=IntKind.i64.wrap ((a1.length:Int)*IntKind.i64.wrap ((a0.l.length:Int)-1));some (.inl (IntKind.i64.wrap (0+x46))) else some (.inl 0):Option (Int⊕_)).bind (Sum.elim (fun(p8:Int)=>(iter (fun(s11:(Int×Int))=>if(decide (s11.2<(a0.l.length:Int)))=true then (ES a0.l s11.2).bind fun x14=>let x18:=decide (IntKind.i64.wrap (9223372036854775807-s11.1)<(x14.length:Int));if x18=true then none else some (.inl (IntKind.i64.wrap (s11.1+(x14.length:Int)),IntKind.i64.wrap (s11.2+1))) else some (.inr (.inl s11.1))) (p8,0)).bind (Sum.elim (fun(p12:Int)=>(dW [] p12).bind fun x23=>(ES a0.l 0).bind fun x24=>(Le [] x24).bind fun x26=>(slG a0 (some 1) none).bind fun x27=>(iter (fun(s29:(Int×AR))=>if(decide (s29.1<(x27.l.length:Int)))=true then (ES x27.l s29.1).bind fun x32=>(Le s29.2 a1).bind fun x34=>(Le x34 x32).bind fun x35=>some (.inl (IntKind.i64.wrap (s29.1+1),x35)) else some (.inr (.inl s29.2))) (0,x26)).bind (Sum.elim (fun(p30:AR)=>(aH (decide (0<p12)) p30).bind fun x37=>some x37) some)) some)) some)
noncomputable def Sa(a:Ce [(T.sl A5),A5]):BS tb Iw [(T.sl A5),A5] [A5] a:=Ad<|Aj (A3 Gy)<|Ai<|Ad<|Ab rfl<|Ag (DL (Af rfl)) fun x1=>Ac<|AD<|Ad<|Ag (A9 rfl (Af rfl) AY) fun x2=>Ab rfl<|Ac<|Aa.cond (Af rfl) (Ad<|Aj (A3 Gy)<|Ac<|Aa.ret (.one (AE rfl))) (Ad<|Ag (A9 rfl (Af rfl) AY) fun x3=>Ab rfl<|Ac<|Aa.cond (Af rfl) (Ad<|Ab rfl<|Aa.op (F7 rfl (Af rfl) AY) fun x4=>Ap (Is rfl rfl (Af rfl)) fun x5=>Ab rfl<|Ac<|Aa.ret (.one (AE rfl))) (Aa.skip<|AN<|Ai<|Aj (A3 AY)<|Ai<|Ad<|Ab rfl<|Ag (Ir (Af rfl)) fun x6=>Ag (A9 rfl (Af rfl) AY) fun x7=>Ac<|Ih (τ:=Int) (fun p8=>⟨[(0, .val (T.sl A5) a.1),(1, .val A5 a.2),(5, .val (T.int .i64) p8)],[]⟩) (fun p8=>Ai<|Ad<|Ab rfl<|Ag (DL (Af rfl)) fun x10=>Aj (A3 AY)<|Ac<|AD<|Aa.loop (id:=1) (σ:=(Int×Int)) (τ:=Int) (fun s11=>⟨[(0, .val (T.sl A5) a.1),(1, .val A5 a.2),(5, .val (T.int .i64) s11.1),(39, .val (T.sl A5) a.1),(40, .val (T.int .i64) x10),(41, .val (T.int .i64) s11.2)],[]⟩) (fun p12=>⟨[(0, .val (T.sl A5) a.1),(1, .val A5 a.2),(5, .val (T.int .i64) p12)],[]⟩) (p8,0) sB (fun _=>rfl) (fun s11=>Ad<|Ag (A9 rfl (Af rfl) (Af rfl)) fun x13=>Ai<|Aa.cond (Af rfl) (Aa.skip<|Ai<|AD<|Ad<|Aa.op (F7 rfl (Af rfl) (Af rfl)) fun x14=>Ap (Is rfl rfl (Af rfl)) fun x15=>Ab rfl<|Ai<|Ad<|Ab rfl<|Ag (Ir (Af rfl)) fun x16=>Ab rfl<|Ag (Ei (I:=(IT.int .i64)) AY (Af rfl)) fun x17=>Ag (A9 rfl (Af rfl) (Af rfl)) fun x18=>Ac<|Aa.cond (Af rfl) (Aj (uC (t:=9))<|Aa.stop) (Aa.skip<|Ac<|Ab rfl<|Ab rfl<|Ag (Ir (Af rfl)) fun x19=>Ag (BJ (I:=(IT.int .i64)) (Af rfl) (Af rfl)) fun x20=>
 Ab rfl<|AN<|Ac<|Ag (BJ (I:=(IT.int .i64)) (Af rfl) AY) fun x21=>Ab rfl<|Aa.next (x20,x21) sB)) (Bh<|BD s11.1 sB)) (fun p12=>Bi<|Ai<|Al (kD 8 5 rfl rfl) fun x22=>Ai<|Ab rfl<|Cm (M_bldR Br rfl LU rfl (Af rfl) rfl (Af rfl)) fun x23=>Ai<|Ab rfl<|Aa.op (F7 rfl (Af rfl) AY) fun x24=>Ap (Is rfl rfl (Af rfl)) fun x25=>Cm (WI Br rfl BQ (Af rfl) rfl (Af rfl)) fun x26=>Ai<|Ad<|Ab rfl<|Aa.op (h_sll rfl (Af rfl) (.some AY) .none) fun x27=>Ag (DL (Af rfl)) fun x28=>Aj (A3 AY)<|Ac<|AD<|Aa.loop (id:=3) (σ:=(Int×AR)) (τ:=AR) (fun s29=>⟨[(1, .val A5 a.2),(8, .own 8),(63, .val (T.sl A5) x27),(64, .val (T.int .i64) x28),(65, .val (T.int .i64) s29.1)],[(8, .dom (NB 107 5 (decide (0<p12))) s29.2)]⟩) (fun p30=>⟨[(8, .own 8)],[(8, .dom (NB 107 5 (decide (0<p12))) p30)]⟩) (0,x26) sB (fun _=>rfl) (fun s29=>Ad<|Ag (A9 rfl (Af rfl) (Af rfl)) fun x31=>Ai<|Aa.cond (Af rfl) (Aa.skip<|Ai<|AD<|Ad<|Aa.op (F7 rfl (Af rfl) (Af rfl)) fun x32=>Ap (Is rfl rfl (Af rfl)) fun x33=>Ab rfl<|Ai<|Ab rfl<|Cm (WI Br rfl BQ (Af rfl) rfl (Af rfl)) fun x34=>Ac<|Ab rfl<|Cm (WI Br rfl BQ (Af rfl) rfl (Af rfl)) fun x35=>AN<|Ac<|Ag (BJ (I:=(IT.int .i64)) (Af rfl) AY) fun x36=>Ab rfl<|Aa.next (x36,x35) sB) (Bh<|BD s29.2 sB)) (fun p30=>Bi<|Ai<|Cm (kC Ez (Af rfl) rfl) fun x37=>Ab rfl<|Ac<|Aa.ret (.one (AE rfl)))))<|Aa.cond (Af rfl) (Ad<|Ad<|Ab rfl<|Ag (Ir (Af rfl)) fun x38=>Ab rfl<|Ag (DL (Af rfl)) fun x39=>Ag (Ei (I:=(IT.int .i64)) (Af rfl) AY) fun x40=>Aa.op (M0 (I:=(IT.int .i64)) AY (Af rfl)) fun x41=>Ag (A9 rfl (Af rfl) (Af rfl)) fun x42=>
 Ac<|Aa.cond (Af rfl) (Aj (uC (t:=9))<|Aa.stop) (Aa.skip<|Ac<|Ab rfl<|Ab rfl<|Ag (Ir (Af rfl)) fun x43=>Ab rfl<|Ag (DL (Af rfl)) fun x44=>Ag (Ei (I:=(IT.int .i64)) (Af rfl) AY) fun x45=>Ag (Lr (I:=(IT.int .i64)) (Af rfl) (Af rfl)) fun x46=>Ag (BJ (I:=(IT.int .i64)) (Af rfl) (Af rfl)) fun x47=>Ab rfl<|Ho x47 sB)) (Aa.skip<|Ho 0 sB)))
theorem NC:Spec tb DW [(T.sl A5),A5] [A5] (fun a=>Il a.1 a.2):=
 Spec.of VY rfl rfl rfl Sa
noncomputable def OQ(a0:(Ar UInt8 4)):Option AR:=(iter (fun(s3:(Int×(Ar AR 4)))=>if(decide (s3.1<4))=true then (ES a0.l s3.1).bind fun x6=>(Dt (Co (x6.toNat:Int))).bind fun x8=>(Ft 4 s3.1).bind fun x9=>(if x9<4 then some (s3.2.set x9 x8)else none).bind fun x10=>some (.inl (IntKind.i64.wrap (s3.1+1),x10)) else some (.inr (.inl s3.2))) (0,(A2 4 A5).z)).bind (Sum.elim (fun(p4:(Ar AR 4))=>(if 0+4≤4 then Il (GS.mk ((p4.l.drop 0).take 4)) [46]else none).bind fun x12=>some x12) some)
noncomputable def Xc(a:Ce [(A2 4 T.u8)]):BS tb L7 [(A2 4 T.u8)] [A5] a:=Ad<|Al (Bt (t:=(A2 4 T.u8)) 1 rfl rfl (Af rfl)) fun _=>Aj (A3 Gy)<|Ai<|Al (Cn (t:=(A2 4 A5)) 3 rfl rfl) fun x1=>Ai<|Ad<|Ap (A1 (t:=(A2 4 T.u8)) (u:=(A2 4 T.u8)) (Af rfl) rfl rfl (Ay _) rfl rfl) fun x2=>Aj (A3 AY)<|Ac<|AD<|Aa.loop (id:=0) (σ:=(Int×(Ar AR 4))) (τ:=(Ar AR 4)) (fun s3=>⟨[(3, .cp 3 0),(6, .val (A2 4 T.u8) x2),(7, .val (T.int .i64) s3.1)],[(3, .cells [(4, .val (A2 4 A5) s3.2)])]⟩) (fun p4=>⟨[(3, .cp 3 0)],[(3, .cells [(4, .val (A2 4 A5) p4)])]⟩) (0,x1) sB (fun _=>rfl) (fun s3=>Ad<|Ag (A9 rfl (Af rfl) AY) fun x5=>Ai<|Aa.cond (Af rfl) (Aa.skip<|Ai<|AD<|Ad<|Ab rfl<|Aa.op (h_ixa rfl rfl rfl (Af rfl) (Af rfl)) fun x6=>Ab rfl<|Ab rfl<|Ac<|Ab rfl<|Ab rfl<|Ag (HZ (I:=IT.u8) (J:=IT.u64) rfl (Af rfl)) fun x7=>Aa.op (AF Gg (.one (Af rfl))) fun x8=>Aa.op (IV (Af rfl) (Af rfl)) fun x9=>Cm (Ii (s:=(A2 4 A5)) (Ay _) rfl (Af rfl) (Af rfl) rfl rfl) fun x10=>AN<|Ac<|Ag (BJ (I:=(IT.int .i64)) (Af rfl) AY) fun x11=>Ab rfl<|Aa.next (x11,x10) sB) (Bh<|BD s3.2 sB)) (fun p4=>Bi<|Ai<|Aj (Nh (k:=0) (m:=4) rfl rfl (Af rfl) .none .none rfl rfl rfl)<|Aa.op (KB (c:=0+4≤4) NC (.cons O7 .nil) (fun hc=> .cons (a_s (o:=0) (k:=0) (m:=4) (n:=4) (Ay _) rfl (Af rfl) rfl rfl hc)<| .one (a_v Gy))) fun x12=>Ab rfl<|Ac<|Aa.ret (.one (AE rfl)))
theorem YX:Spec tb GW [(A2 4 T.u8)] [A5] (fun a=>OQ a):=
 Spec.of eU rfl rfl rfl Xc
noncomputable def Kq(a0:(GS UInt8)):Option Bool:=(De (decide (1≤(a0.l.length:Int))) (some (decide ((a0.l.length:Int)≤8)))).bind fun x5=>some x5
noncomputable def Sg(a:Ce [(T.sl T.u8)]):BS tb I4 [(T.sl T.u8)] [T.b] a:=Ad<|Aj (A3 G8)<|Ai<|Ab rfl<|Ag (DL (Af rfl)) fun x1=>Ag (A9 rfl (Af rfl) AY) fun x2=>Ab rfl<|Aa.and 3 rfl rfl rfl (AU (A3 (Af rfl))<|Bf (DL (Af rfl)) fun x3=>Bf (A9 rfl (Af rfl) AY) fun x4=>Bl.nil (Af rfl)) fun x5=>Ab rfl<|Ac<|Aa.ret (.one (AE rfl))
theorem TJ:Spec tb EB [(T.sl T.u8)] [T.b] (fun a=>Kq a):=
 Spec.of We rfl rfl rfl Sg
noncomputable def Kr(a0:(GS UInt8)):Option (UInt64×Int):=(Kq a0).bind fun x1=>if(!x1)=true then some ((0:UInt64),1) else (iter (fun(s4:(UInt64×Int))=>if(decide (s4.2<(a0.l.length:Int)))=true then (ES a0.l s4.2).bind fun x7=>(if((8:UInt64).toNat:Int)<0 then none else some (Co ((s4.1.toNat:Int)*2^(min ((8:UInt64).toNat:Int).toNat 64)))).bind fun x9=>let x11:=Co (JE .or .u64 (x9.toNat:Int) ((Co (x7.toNat:Int)).toNat:Int));some (.inl (x11,IntKind.i64.wrap (s4.2+1))) else some (.inr (.inl s4.1))) ((0:UInt64),0)).bind (Sum.elim (fun(p5:UInt64)=>some (p5,0)) some)
noncomputable def Sh(a:Ce [(T.sl T.u8)]):BS tb I5 [(T.sl T.u8)] [T.u64,(T.int .i64)] a:=Ad<|Aj (A3 (Dz 0 rfl))<|Aj (A3 AY)<|Ai<|Ad<|Ab rfl<|Aa.op (AF TJ (.one (Af rfl))) fun x1=>Ag (EJ (Af rfl)) fun x2=>Ac<|Aa.cond (Af rfl) (Ad<|Aj (A3 (Dz 0 rfl))<|Aj (A3 AY)<|Ac<|Aa.ret (.cons (AE rfl)<| .one (AE rfl))) (Aa.skip<|Ai<|Aj (A3 (Dz 0 rfl))<|Ai<|Ad<|Ab rfl<|Ag (DL (Af rfl)) fun x3=>Aj (A3 AY)<|Ac<|AD<|Aa.loop (id:=0) (σ:=(UInt64×Int)) (τ:=UInt64) (fun s4=>⟨[(4, .val T.u64 s4.1),(10, .val (T.sl T.u8) a),(11, .val (T.int .i64) x3),(12, .val (T.int .i64) s4.2)],[]⟩) (fun p5=>⟨[(4, .val T.u64 p5)],[]⟩) ((0:UInt64),0) sB (fun _=>rfl) (fun s4=>Ad<|Ag (A9 rfl (Af rfl) (Af rfl)) fun x6=>Ai<|Aa.cond (Af rfl) (Aa.skip<|Ai<|AD<|Ad<|Aa.op (F7 rfl (Af rfl) (Af rfl)) fun x7=>Ap (Is rfl rfl (Af rfl)) fun x8=>Ab rfl<|Ac<|Ab rfl<|Aa.op (h_shl (I:=IT.u64) (J:=IT.u64) (Af rfl) (Dz 8 rfl)) fun x9=>Ab rfl<|Ag (HZ (I:=IT.u8) (J:=IT.u64) rfl (Af rfl)) fun x10=>Ag (h_or (I:=IT.u64) (Af rfl) (Af rfl)) fun x11=>Ab rfl<|AN<|Ac<|Ag (BJ (I:=(IT.int .i64)) (Af rfl) AY) fun x12=>Ab rfl<|Aa.next (x11,x12) sB) (Bh<|BD s4.1 sB)) (fun p5=>Bi<|Ai<|Ab rfl<|Ab rfl<|Aj (A3 AY)<|Ac<|Aa.ret (.cons (AE rfl)<| .one (AE rfl))))
theorem TK:Spec tb EC [(T.sl T.u8)] [T.u64,(T.int .i64)] (fun a=>Kr a):=
 Spec.of Wf rfl rfl rfl Sh
noncomputable def Ks(a0:(Ar UInt8 16)):Option (Ar UInt16 8):=(iter (fun(s3:(Int×(Ar UInt16 8)))=>if(decide (s3.1<8))=true then let x8:=IntKind.i64.wrap (IntKind.i64.wrap (2*s3.1)+2);(RO 16 (some (IntKind.i64.wrap (2*s3.1))) (some x8)).bind fun x9=>(if x9.1+(x9.2-x9.1)≤16 then Kr (GS.mk ((a0.l.drop x9.1).take (x9.2-x9.1)))else none).bind fun x10=>(Ft 8 s3.1).bind fun x14=>(if x14<8 then some (s3.2.set x14 (Vw (x10.1.toNat:Int)))else none).bind fun x15=>some (.inl (IntKind.i64.wrap (s3.1+1),x15)) else some (.inr (.inl s3.2))) (0,(A2 8 T.u16).z)).bind (Sum.elim (fun(p4:(Ar UInt16 8))=>some p4) some)
noncomputable def Sj(a:Ce [(A2 16 T.u8)]):BS tb I7 [(A2 16 T.u8)] [(A2 8 T.u16)] a:=Ad<|Al (Bt (t:=(A2 16 T.u8)) 1 rfl rfl (Af rfl)) fun _=>Al (Cn (t:=(A2 8 T.u16)) 2 rfl rfl) fun x1=>Ai<|Al (Cn (t:=(A2 8 T.u16)) 3 rfl rfl) fun x2=>Ai<|Ad<|Aj (A3 AY)<|Ac<|AD<|Aa.loop (id:=0) (σ:=(Int×(Ar UInt16 8))) (τ:=(Ar UInt16 8)) (fun s3=>⟨[(1, .cp 1 0),(2, .cp 2 0),(3, .cp 3 0),(7, .val (T.int .i64) s3.1)],[(1, .cells [(16, .val (A2 16 T.u8) a)]),(2, .cells [(8, .val (A2 8 T.u16) x1)]),(3, .cells [(8, .val (A2 8 T.u16) s3.2)])]⟩) (fun p4=>⟨[(2, .cp 2 0),(3, .cp 3 0)],[(2, .cells [(8, .val (A2 8 T.u16) x1)]),(3, .cells [(8, .val (A2 8 T.u16) p4)])]⟩) (0,x2) sB (fun _=>rfl) (fun s3=>Ad<|Ag (A9 rfl (Af rfl) AY) fun x5=>Ai<|Aa.cond (Af rfl) (Aa.skip<|Ai<|AD<|Ad<|Ab rfl<|Ab rfl<|Ai<|Ab rfl<|Ag (Lr (I:=(IT.int .i64)) AY (Af rfl)) fun x6=>Ab rfl<|Ag (Lr (I:=(IT.int .i64)) AY (Af rfl)) fun x7=>Ag (BJ (I:=(IT.int .i64)) (Af rfl) AY) fun x8=>Aa.op (ZH rfl rfl (Af rfl) (.some (Af rfl)) (.some (Af rfl))) fun x9=>Aa.op (oN (c:=x9.1+(x9.2-x9.1)≤16) TK (.cons uP (.cons eD .nil)) (fun hc=> .one (a_s (o:=0) (k:=x9.1) (m:=x9.2-x9.1) (n:=16) (Ay _) rfl (Af rfl) rfl rfl hc))) fun x10=>Ab rfl<|Ap (Cp (Af rfl) rfl) fun x11=>Ap (Cp (Af rfl) rfl) fun x12=>Ab rfl<|Ab rfl<|Ac<|Ab rfl<|Ab rfl<|Ag (HZ (I:=IT.u64) (J:=IT.u16) rfl (Af rfl)) fun x13=>Aa.op (IV (Af rfl) (Af rfl)) fun x14=>Cm (Ii (s:=(A2 8 T.u16)) (Ay _) rfl (Af rfl) (Af rfl) rfl rfl) fun x15=>AN<|Ac<|Ag (BJ (I:=(IT.int .i64)) (Af rfl) AY) fun x16=>Ab rfl<|
 Aa.next (x16,x15) sB) (Bh<|BD s3.2 sB)) (fun p4=>Bi<|Ai<|Ap (A1 (t:=(A2 8 T.u16)) (u:=(A2 8 T.u16)) (Af rfl) rfl rfl (Ay _) rfl rfl) fun x17=>Al (Dg (Af rfl) (Af rfl) rfl rfl (Ay _) rfl) fun x18=>Ac<|Aa.ret (.one (Hk rfl rfl rfl (Ay _) rfl rfl)))
theorem TL:Spec tb ED [(A2 16 T.u8)] [(A2 8 T.u16)] (fun a=>Ks a):=
 Spec.of Wh rfl rfl rfl Sj
noncomputable def Jj(a0:(Ar UInt16 8)):Option (Int×Int):=(iter (fun(s2:(Int×Int×Int×Int))=>if(decide (s2.2.2.2<8))=true then (ES a0.l s2.2.2.2).bind fun x5=>let x6:= !decide ((x5.toNat:Int)=((0:UInt16).toNat:Int));if x6=true then some (.inl (s2.1,s2.2.1,0,IntKind.i64.wrap (s2.2.2.2+1))) else let x9:=decide (s2.2.1<IntKind.i64.wrap (s2.2.2.1+1));if x9=true then let x11:=IntKind.i64.wrap (IntKind.i64.wrap (s2.2.2.2+1)-IntKind.i64.wrap (s2.2.2.1+1));some (.inl (x11,IntKind.i64.wrap (s2.2.2.1+1),IntKind.i64.wrap (s2.2.2.1+1),IntKind.i64.wrap (s2.2.2.2+1))) else some (.inl (s2.1,s2.2.1,IntKind.i64.wrap (s2.2.2.1+1),IntKind.i64.wrap (s2.2.2.2+1))) else some (.inr (.inl (s2.1,s2.2.1)))) (0,0,0,0)).bind (Sum.elim (fun(p3:(Int×Int))=>some (p3.1,p3.2)) some)
noncomputable def QG(a:Ce [(A2 8 T.u16)]):BS tb HH [(A2 8 T.u16)] [(T.int .i64),(T.int .i64)] a:=Ad<|Al (Bt (t:=(A2 8 T.u16)) 1 rfl rfl (Af rfl)) fun _=>Aj (A3 AY)<|Aj (A3 AY)<|Ai<|Aj (A3 AY)<|Ai<|Ad<|Ap (A1 (t:=(A2 8 T.u16)) (u:=(A2 8 T.u16)) (Af rfl) rfl rfl (Ay _) rfl rfl) fun x1=>Aj (A3 AY)<|Ac<|AD<|Aa.loop (id:=0) (σ:=(Int×Int×Int×Int)) (τ:=(Int×Int)) (fun s2=>⟨[(2, .val (T.int .i64) s2.1),(3, .val (T.int .i64) s2.2.1),(4, .val (T.int .i64) s2.2.2.1),(7, .val (A2 8 T.u16) x1),(8, .val (T.int .i64) s2.2.2.2)],[]⟩) (fun p3=>⟨[(2, .val (T.int .i64) p3.1),(3, .val (T.int .i64) p3.2)],[]⟩) (0,0,0,0) sB (fun _=>rfl) (fun s2=>Ad<|Ag (A9 rfl (Af rfl) AY) fun x4=>Ai<|Aa.cond (Af rfl) (Aa.skip<|Ai<|AD<|Ad<|Ab rfl<|Aa.op (h_ixa rfl rfl rfl (Af rfl) (Af rfl)) fun x5=>Ab rfl<|Ab rfl<|Ai<|Ad<|Ab rfl<|Ag (Ey (I:=IT.u16) rfl (Af rfl) (sX 0 rfl)) fun x6=>Ac<|Aa.cond (Af rfl) (Ad<|Aj (A3 AY)<|Ac<|Bh<|Bi<|Ac<|Ag (BJ (I:=(IT.int .i64)) (Af rfl) AY) fun x7=>Ab rfl<|Aa.next (s2.1,s2.2.1,0,x7) sB) (Aa.skip<|Ai<|Ab rfl<|Ag (BJ (I:=(IT.int .i64)) (Af rfl) AY) fun x8=>Ab rfl<|Ai<|Ab rfl<|Ab rfl<|Ag (A9 rfl (Af rfl) (Af rfl)) fun x9=>Ac<|Aa.cond (Af rfl) (Ab rfl<|Ag (BJ (I:=(IT.int .i64)) (Af rfl) AY) fun x10=>Ab rfl<|Ag (Ei (I:=(IT.int .i64)) (Af rfl) (Af rfl)) fun x11=>Ab rfl<|Ab rfl<|Ab rfl<|AN<|Ac<|Ag (BJ (I:=(IT.int .i64)) (Af rfl) AY) fun x12=>Ab rfl<|Aa.next (x11,x8,x8,x12) sB) (Aa.skip<|AN<|Ac<|Ag (BJ (I:=(IT.int .i64)) (Af rfl) AY) fun x13=>Ab rfl<|Aa.next (s2.1,s2.2.1,x8,x13) sB))) (Bh<|BD (s2.1,s2.2.1) sB)) (fun p3=>
 Bi<|Ai<|Ab rfl<|Ab rfl<|Ab rfl<|Ab rfl<|Ac<|Aa.ret (.cons (AE rfl)<| .one (AE rfl)))
theorem RX:Spec tb Ep [(A2 8 T.u16)] [(T.int .i64),(T.int .i64)] (fun a=>Jj a):=
 Spec.of Uu rfl rfl rfl QG
noncomputable def Lq(a0:UInt16):Option AR:=(iter (fun(s1:(UInt16×AR))=>let x3:=Vw (JE .and .u16 (s1.1.toNat:Int) ((15:UInt16).toNat:Int));(ES ([48,49,50,51,52,53,54,55,56,57,97,98,99,100,101,102]:AR) (x3.toNat:Int)).bind fun x4=>(if(oY (x4.toNat:Int)).length+s1.2.length≤2*BR then some (oY (x4.toNat:Int)++s1.2)else none).bind fun x6=>(if((4:UInt64).toNat:Int)<0 then none else some (Vw (Int.fdiv (s1.1.toNat:Int) (2^(min ((4:UInt64).toNat:Int).toNat 16))))).bind fun x7=>let x8:=decide ((x7.toNat:Int)=((0:UInt16).toNat:Int));if x8=true then (some x6).map fun r=> .inr (.inr r) else some (.inl (x7,x6))) (a0,[])).bind (Sum.elim (fun _:Empty=>none) some)
noncomputable def TN(a:Ce [T.u16]):BS tb Jl [T.u16] [A5] a:=Ad<|Aj (A3 Gy)<|Ai<|Aj (A3 Gy)<|Ac<|AD<|Aa.loop (id:=0) (σ:=(UInt16×AR)) (τ:=Empty) (fun s1=>⟨[(0, .val T.u16 s1.1),(3, .val A5 s1.2)],[]⟩) (fun p=>p.elim) (a,[]) sB (fun _=>rfl) (fun s1=>AD<|Ad<|Ab rfl<|Ag (uH (I:=IT.u16) (Af rfl) (sX 15 rfl)) fun x3=>Aa.op (Fu Gy (o_n16 (Af rfl))) fun x4=>Ag (h_cvcE (I:=IT.u8) (Af rfl)) fun x5=>Ab rfl<|Aa.op (JP (Af rfl) (Af rfl)) fun x6=>Ab rfl<|Ai<|Ab rfl<|Aa.op (VO (I:=NT.u16) (J:=IT.u64) (Af rfl) (Dz 4 rfl)) fun x7=>Ab rfl<|Ai<|Ab rfl<|Ag (Ey (I:=IT.u16) rfl (Af rfl) (sX 0 rfl)) fun x8=>Ac<|Aa.cond (Af rfl) (Ad<|Ab rfl<|Ab rfl<|Ac<|By<|Aa.ret (.one (AE rfl))) (Aa.skip<|AN<|Aa.next (x7,x6) sB)) (fun _=>Aa.stop)
theorem UU:Spec tb Fw [T.u16] [A5] (fun a=>Lq a):=
 Spec.of Xz rfl rfl rfl TN
noncomputable def KE(a0:(GS UInt16)):Option AR:=(iter (fun(s2:(Int×(GS AR)))=>if(decide (s2.1<(a0.l.length:Int)))=true then (ES a0.l s2.1).bind fun x5=>(Lq x5).bind fun x7=>(W7 16 s2.2 [x7]).bind fun x9=>some (.inl (IntKind.i64.wrap (s2.1+1),x9)) else some (.inr (.inl s2.2))) (0, .nil)).bind (Sum.elim (fun(p3:(GS AR))=>(Il p3 [58]).bind fun x11=>some x11) some)
noncomputable def Xe(a:Ce [(T.sl T.u16)]):BS tb L9 [(T.sl T.u16)] [A5] a:=Ad<|Aj (A3 Gy)<|Ai<|Aj (A3 (MV (t:=A5)))<|Aa.turn (born (n:=3) (j:=1003) rfl rfl)<|Ai<|Ad<|Ab rfl<|Ag (DL (Af rfl)) fun x1=>Aj (A3 AY)<|Ac<|AD<|Aa.loop (id:=0) (σ:=(Int×(GS AR))) (τ:=(GS AR)) (fun s2=>⟨[(3, .own 1003),(6, .val (T.sl T.u16) a),(7, .val (T.int .i64) x1),(8, .val (T.int .i64) s2.1)],[(1003, .row A5 s2.2)]⟩) (fun p3=>⟨[(3, .own 1003)],[(1003, .row A5 p3)]⟩) (0, .nil) sB (fun _=>rfl) (fun s2=>Ad<|Ag (A9 rfl (Af rfl) (Af rfl)) fun x4=>Ai<|Aa.cond (Af rfl) (Aa.skip<|Ai<|AD<|Ad<|Aa.op (F7 rfl (Af rfl) (Af rfl)) fun x5=>Ap (Is rfl rfl (Af rfl)) fun x6=>Ab rfl<|Ac<|Ab rfl<|Ab rfl<|Aa.op (AF UU (.one (Af rfl))) fun x7=>Ag (NH (t:=A5) (n:=1) rfl rfl (.cons rfl (Af rfl)<| .nil _)) fun x8=>Cm (NR rfl (Af rfl) rfl (TU (Af rfl))) fun x9=>Ab rfl<|AN<|Ac<|Ag (BJ (I:=(IT.int .i64)) (Af rfl) AY) fun x10=>Ab rfl<|Aa.next (x10,x9) sB) (Bh<|BD s2.2 sB)) (fun p3=>Bi<|Ai<|Ab rfl<|Aa.frzRow 1003 rfl rfl<|Aa.op (AF NC (.cons (Af rfl)<| .one Gy)) fun x11=>Ab rfl<|Ac<|Aa.ret (.one (AE rfl)))
theorem MM:Spec tb EL [(T.sl T.u16)] [A5] (fun a=>KE a):=
 Spec.of eW rfl rfl rfl Xe
noncomputable def Np(a0:(Ar UInt8 16)):Option AR:=(Ks a0).bind fun x2=>(Jj x2).bind fun x6=>if(decide (x6.2<2))=true then (if 0+8≤8 then KE (GS.mk ((x2.l.drop 0).take 8))else none).bind fun x10=>some x10 else ((RO 8 none (some x6.1)).map fun p=>p.2).bind fun x11=>(if 0+x11≤8 then KE (GS.mk ((x2.l.drop 0).take x11))else none).bind fun x12=>(if x12.length+[58,58].length≤2*BR then some (x12++[58,58])else none).bind fun x13=>(RO 8 (some (IntKind.i64.wrap (x6.1+x6.2))) none).bind fun x15=>(if x15.1+(x15.2-x15.1)≤8 then KE (GS.mk ((x2.l.drop x15.1).take (x15.2-x15.1)))else none).bind fun x16=>(if x13.length+x16.length≤2*BR then some (x13++x16)else none).bind fun x17=>some x17
noncomputable def Vc(a:Ce [(A2 16 T.u8)]):BS tb Kz [(A2 16 T.u8)] [A5] a:=Ad<|Al (Bt (t:=(A2 16 T.u8)) 1 rfl rfl (Af rfl)) fun _=>Aj (A3 Gy)<|Ai<|Ap (A1 (t:=(A2 16 T.u8)) (u:=(A2 16 T.u8)) (Af rfl) rfl rfl (Ay _) rfl rfl) fun x1=>Aa.op (AF TL (.one (Af rfl))) fun x2=>Al (Cn (t:=(A2 8 T.u16)) 3 rfl rfl) fun x3=>Al (Dg (Af rfl) (Af rfl) rfl rfl (Ay _) rfl) fun x4=>Ai<|Ap (A1 (t:=(A2 8 T.u16)) (u:=(A2 8 T.u16)) (Af rfl) rfl rfl (Ay _) rfl rfl) fun x5=>Aa.op (Jg RX (.one (Af rfl))) fun x6=>Ab rfl<|Ap (Cp (Af rfl) rfl) fun x7=>Ap (Cp (Af rfl) rfl) fun x8=>Ab rfl<|Ab rfl<|Ai<|Ad<|Ab rfl<|Ag (A9 rfl (Af rfl) AY) fun x9=>Ac<|Aa.cond (Af rfl) (Ad<|Aj (Nh (k:=0) (m:=8) rfl rfl (Af rfl) .none .none rfl rfl rfl)<|Aa.op (KB (c:=0+8≤8) MM (.cons O7 .nil) (fun hc=> .one (a_s (o:=0) (k:=0) (m:=8) (n:=8) (Ay _) rfl (Af rfl) rfl rfl hc))) fun x10=>Ab rfl<|Ac<|Aa.ret (.one (AE rfl))) (Aa.skip<|Ai<|Ab rfl<|Aa.op (iW rfl rfl (Af rfl) (.some (Af rfl))) fun x11=>Aa.op (KB (c:=0+x11≤8) MM (.cons O7 .nil) (fun hc=> .one (a_s (o:=0) (k:=0) (m:=x11) (n:=8) (Ay _) rfl (Af rfl) rfl rfl hc))) fun x12=>Aa.op (JP (Af rfl) Gy) fun x13=>Ab rfl<|Ab rfl<|Ag (BJ (I:=(IT.int .i64)) (Af rfl) (Af rfl)) fun x14=>Aa.op (ZH rfl rfl (Af rfl) (.some (Af rfl)) .none) fun x15=>Aa.op (KB (c:=x15.1+(x15.2-x15.1)≤8) MM (.cons O7 .nil) (fun hc=> .one (a_s (o:=0) (k:=x15.1) (m:=x15.2-x15.1) (n:=8) (Ay _) rfl (Af rfl) rfl rfl hc))) fun x16=>Aa.op (JP (Af rfl) (Af rfl)) fun x17=>Ab rfl<|Ac<|Aa.ret (.one (AE rfl)))
theorem WS:Spec tb Gt [(A2 16 T.u8)] [A5] (fun a=>Np a):=
 Spec.of ZU rfl rfl rfl Vc
noncomputable def KF(a0:A4):Option AR:=(GJ a0).bind fun x2=>if(!x2)=true then some [] else if(decide (a0.V=4))=true then let x6:=(⟨(a0.B.l.drop 0).take 4,by rw[List.length_take,List.length_drop,Ar.len];rfl⟩:(Ar UInt8 4));(OQ x6).bind fun x7=>some x7 else (Np a0.B).bind fun x9=>some x9
noncomputable def Xh(a:Ce [Ak]):BS tb LC [Ak] [A5] a:=Ad<|Al (Bt (t:=Ak) 1 rfl rfl (Af rfl)) fun _=>Aj (A3 Gy)<|Ai<|AD<|Ad<|Ap (A1 (t:=Ak) (u:=Ak) (Af rfl) rfl rfl (Ay _) rfl rfl) fun x1=>Aa.op (AF Hs (.one (Af rfl))) fun x2=>Ag (EJ (Af rfl)) fun x3=>Ab rfl<|Ac<|Aa.cond (Af rfl) (Ad<|Aj (A3 Gy)<|Ac<|Aa.ret (.one (AE rfl))) (Ad<|Aj (AB (Af rfl))<|Ap (A1 (t:=Ak) (u:=(T.int .i64)) (Af rfl) rfl rfl BE rfl rfl) fun x4=>Ag (A9 rfl (Af rfl) AY) fun x5=>Ab rfl<|Ac<|Aa.cond (Af rfl) (Ad<|Aj (AB (Af rfl))<|Aj (Nh (k:=0) (m:=4) rfl rfl (Af rfl) .none (.some AY) rfl rfl rfl)<|Aj (uA (Af rfl) rfl)<|Ap (A1 (t:=Ak) (u:=(A2 4 T.u8)) (Af rfl) rfl rfl (JF BT (Ta 16 T.u8 0 4 (by decide))) rfl rfl) fun x6=>Aa.op (AF YX (.one (Af rfl))) fun x7=>Ab rfl<|Ac<|Aa.ret (.one (AE rfl))) (Aa.skip<|AN<|Ai<|Aj (AB (Af rfl))<|Ap (A1 (t:=Ak) (u:=(A2 16 T.u8)) (Af rfl) rfl rfl BT rfl rfl) fun x8=>Aa.op (AF WS (.one (Af rfl))) fun x9=>Ab rfl<|Ac<|Aa.ret (.one (AE rfl))))
theorem MN:Spec tb EM [Ak] [A5] (fun a=>KF a):=
 Spec.of eZ rfl rfl rfl Xh
noncomputable def Jf(a0:AA):Option AR:=(DK a0).bind fun x2=>if(!x2)=true then some [] else (Dt (Co a0.Port)).bind fun x6=>(KX a0.A).bind fun x8=>if(decide (32<x8))=true then (KF a0.A).bind fun x11=>(if [91].length+x11.length≤2*BR then some ([91]++x11)else none).bind fun x12=>(if x12.length+[93,58].length≤2*BR then some (x12++[93,58])else none).bind fun x13=>(if x13.length+x6.length≤2*BR then some (x13++x6)else none).bind fun x14=>some x14 else (KF a0.A).bind fun x16=>(if x16.length+[58].length≤2*BR then some (x16++[58])else none).bind fun x17=>(if x17.length+x6.length≤2*BR then some (x17++x6)else none).bind fun x18=>some x18
noncomputable def QA(a:Ce [Aq]):BS tb HB [Aq] [A5] a:=Ad<|Al (Bt (t:=Aq) 1 rfl rfl (Af rfl)) fun _=>Aj (A3 Gy)<|Ai<|Ad<|Ap (A1 (t:=Aq) (u:=Aq) (Af rfl) rfl rfl (Ay _) rfl rfl) fun x1=>Aa.op (AF Im (.one (Af rfl))) fun x2=>Ag (EJ (Af rfl)) fun x3=>Ac<|Aa.cond (Af rfl) (Ad<|Aj (A3 Gy)<|Ac<|Aa.ret (.one (AE rfl))) (Aa.skip<|Ai<|Aj (AB (Af rfl))<|Ap (A1 (t:=Aq) (u:=(T.int .i64)) (Af rfl) rfl rfl Ea rfl rfl) fun x4=>Ag (HZ (I:=(IT.int .i64)) (J:=IT.u64) rfl (Af rfl)) fun x5=>Aa.op (AF Gg (.one (Af rfl))) fun x6=>Ab rfl<|Ai<|Ad<|Aj (AB (Af rfl))<|Ap (A1 (t:=Aq) (u:=Ak) (Af rfl) rfl rfl F6 rfl rfl) fun x7=>Aa.op (AF P5 (.one (Af rfl))) fun x8=>Ag (A9 rfl (Af rfl) AY) fun x9=>Ac<|Aa.cond (Af rfl) (Ad<|Aj (AB (Af rfl))<|Ap (A1 (t:=Aq) (u:=Ak) (Af rfl) rfl rfl F6 rfl rfl) fun x10=>Aa.op (AF MN (.one (Af rfl))) fun x11=>Aa.op (JP Gy (Af rfl)) fun x12=>Aa.op (JP (Af rfl) Gy) fun x13=>Ab rfl<|Aa.op (JP (Af rfl) (Af rfl)) fun x14=>Ab rfl<|Ac<|Aa.ret (.one (AE rfl))) (Aa.skip<|Ai<|Aj (AB (Af rfl))<|Ap (A1 (t:=Aq) (u:=Ak) (Af rfl) rfl rfl F6 rfl rfl) fun x15=>Aa.op (AF MN (.one (Af rfl))) fun x16=>Aa.op (JP (Af rfl) Gy) fun x17=>Ab rfl<|Aa.op (JP (Af rfl) (Af rfl)) fun x18=>Ab rfl<|Ac<|Aa.ret (.one (AE rfl))))
theorem RU:Spec tb En [Aq] [A5] (fun a=>Jf a):=
 Spec.of Uo rfl rfl rfl QA
noncomputable def Hz(a0:An):Option (AR×Bool):=(Jf a0.End).bind fun x2=>(DK a0.End).bind fun x4=>some (x2,x4)
noncomputable def QF(a:Ce [Ae]):BS tb HG [Ae] [A5,T.b] a:=Ad<|Al (Bt (t:=Ae) 1 rfl rfl (Af rfl)) fun _=>Aj (A3 Gy)<|Aj (A3 G8)<|Ai<|Aj (AB (Af rfl))<|Ap (A1 (t:=Ae) (u:=Aq) (Af rfl) rfl rfl HJ rfl rfl) fun x1=>Aa.op (AF RU (.one (Af rfl))) fun x2=>Aj (AB (Af rfl))<|Ap (A1 (t:=Ae) (u:=Aq) (Af rfl) rfl rfl HJ rfl rfl) fun x3=>Aa.op (AF Im (.one (Af rfl))) fun x4=>Ab rfl<|Ab rfl<|Ac<|Aa.ret (.cons (AE rfl)<| .one (AE rfl))
theorem Mg:Spec tb C9 [Ae] [A5,T.b] (fun a=>Hz a):=
 Spec.of Ut rfl rfl rfl QF
noncomputable def PE(a0:An):Option An:=let x3:={a0 with End:=(⟨Ak.z,0⟩:AA)};some x3
noncomputable def QE(a:Ce [Ae]):BS tb HF [Ae] [Ae] a:=Ad<|Al (Bt (t:=Ae) 1 rfl rfl (Af rfl)) fun _=>Al (Cn (t:=Ae) 2 rfl rfl) fun x1=>Ai<|Ag (D4 rfl rfl (.nil _)) fun x2=>Aj (AB (Af rfl))<|Al (Dg (Af rfl) (Af rfl) rfl rfl HJ rfl) fun x3=>Ai<|Ap (A1 (t:=Ae) (u:=Ae) (Af rfl) rfl rfl (Ay _) rfl rfl) fun x4=>Al (Dg (Af rfl) (Af rfl) rfl rfl (Ay _) rfl) fun x5=>Ac<|Aa.ret (.one (Hk rfl rfl rfl (Ay _) rfl rfl))
theorem RW:Spec tb C8 [Ae] [Ae] (fun a=>PE a):=
 Spec.of Us rfl rfl rfl QE
noncomputable def Pb(a0:Ao):Option AR:=(HR a0).bind fun x2=>if(!x2)=true then some [] else (KF a0.A).bind fun x5=>(if x5.length+[47].length≤2*BR then some (x5++[47])else none).bind fun x6=>(Dt (Co a0.Bits)).bind fun x9=>(if x6.length+x9.length≤2*BR then some (x6++x9)else none).bind fun x10=>some x10
noncomputable def Xf(a:Ce [Ah]):BS tb LA [Ah] [A5] a:=Ad<|Al (Bt (t:=Ah) 1 rfl rfl (Af rfl)) fun _=>Aj (A3 Gy)<|Ai<|Ad<|Ap (A1 (t:=Ah) (u:=Ah) (Af rfl) rfl rfl (Ay _) rfl rfl) fun x1=>Aa.op (AF LI (.one (Af rfl))) fun x2=>Ag (EJ (Af rfl)) fun x3=>Ac<|Aa.cond (Af rfl) (Ad<|Aj (A3 Gy)<|Ac<|Aa.ret (.one (AE rfl))) (Aa.skip<|Ai<|Aj (AB (Af rfl))<|Ap (A1 (t:=Ah) (u:=Ak) (Af rfl) rfl rfl BC rfl rfl) fun x4=>Aa.op (AF MN (.one (Af rfl))) fun x5=>Aa.op (JP (Af rfl) Gy) fun x6=>Aj (AB (Af rfl))<|Ap (A1 (t:=Ah) (u:=(T.int .i64)) (Af rfl) rfl rfl BX rfl rfl) fun x7=>Ag (HZ (I:=(IT.int .i64)) (J:=IT.u64) rfl (Af rfl)) fun x8=>Aa.op (AF Gg (.one (Af rfl))) fun x9=>Aa.op (JP (Af rfl) (Af rfl)) fun x10=>Ab rfl<|Ac<|Aa.ret (.one (AE rfl)))
theorem YY:Spec tb GZ [Ah] [A5] (fun a=>Pb a):=
 Spec.of eX rfl rfl rfl Xf
noncomputable def Gj(a0:An):Option (AR×Bool):=(Pb a0.P).bind fun x2=>(HR a0.P).bind fun x4=>some (x2,x4)
noncomputable def Pq(a:Ce [Ae]):BS tb G4 [Ae] [A5,T.b] a:=Ad<|Al (Bt (t:=Ae) 1 rfl rfl (Af rfl)) fun _=>Aj (A3 Gy)<|Aj (A3 G8)<|Ai<|Aj (AB (Af rfl))<|Ap (A1 (t:=Ae) (u:=Ah) (Af rfl) rfl rfl Jq rfl rfl) fun x1=>Aa.op (AF YY (.one (Af rfl))) fun x2=>Aj (AB (Af rfl))<|Ap (A1 (t:=Ae) (u:=Ah) (Af rfl) rfl rfl Jq rfl rfl) fun x3=>Aa.op (AF LI (.one (Af rfl))) fun x4=>Ab rfl<|Ab rfl<|Ac<|Aa.ret (.cons (AE rfl)<| .one (AE rfl))
theorem KJ:Spec tb Cg [Ae] [A5,T.b] (fun a=>Gj a):=
 Spec.of Rw rfl rfl rfl Pq
noncomputable def NJ(a0:An):Option An:=let x3:={a0 with P:=(⟨Ak.z,0⟩:Ao)};some x3
noncomputable def Pp(a:Ce [Ae]):BS tb G3 [Ae] [Ae] a:=Ad<|Al (Bt (t:=Ae) 1 rfl rfl (Af rfl)) fun _=>Al (Cn (t:=Ae) 2 rfl rfl) fun x1=>Ai<|Ag (D4 rfl rfl (.nil _)) fun x2=>Aj (AB (Af rfl))<|Al (Dg (Af rfl) (Af rfl) rfl rfl Jq rfl) fun x3=>Ai<|Ap (A1 (t:=Ae) (u:=Ae) (Af rfl) rfl rfl (Ay _) rfl rfl) fun x4=>Al (Dg (Af rfl) (Af rfl) rfl rfl (Ay _) rfl) fun x5=>Ac<|Aa.ret (.one (Hk rfl rfl rfl (Ay _) rfl rfl))
theorem PO:Spec tb Cf [Ae] [Ae] (fun a=>NJ a):=
 Spec.of Rv rfl rfl rfl Pp
noncomputable def NI(a0:An):Option An:=some ({a0 with N:=(0:UInt64)})
noncomputable def Po(a:Ce [Ae]):BS tb G2 [Ae] [Ae] a:=Ad<|Al (Bt (t:=Ae) 1 rfl rfl (Af rfl)) fun _=>Al (Cn (t:=Ae) 2 rfl rfl) fun x1=>Ai<|Aj (AB (Af rfl))<|Al (Dg (Af rfl) (Dz 0 rfl) rfl rfl BY rfl) fun x2=>Ai<|Ap (A1 (t:=Ae) (u:=Ae) (Af rfl) rfl rfl (Ay _) rfl rfl) fun x3=>Al (Dg (Af rfl) (Af rfl) rfl rfl (Ay _) rfl) fun x4=>Ac<|Aa.ret (.one (Hk rfl rfl rfl (Ay _) rfl rfl))
theorem PN:Spec tb Bd [Ae] [Ae] (fun a=>NI a):=
 Spec.of Ru rfl rfl rfl Po
noncomputable def Nm(a0:An):Option (AR×Bool):=some ([116,114,117,101],true)
noncomputable def Sf(a:Ce [Ae]):BS tb I2 [Ae] [A5,T.b] a:=Ad<|Al (Bt (t:=Ae) 1 rfl rfl (Af rfl)) fun _=>Aj (A3 Gy)<|Aj (A3 G8)<|Ai<|Aj (A3 Gy)<|Aj (A3 G8)<|Ac<|Aa.ret (.cons (AE rfl)<| .one (AE rfl))
theorem NE:Spec tb CU [Ae] [A5,T.b] (fun a=>Nm a):=
 Spec.of Wd rfl rfl rfl Sf
noncomputable def Rp(a0:An):Option An:=some a0
noncomputable def Se(a:Ce [Ae]):BS tb I1 [Ae] [Ae] a:=Ad<|Al (Bt (t:=Ae) 1 rfl rfl (Af rfl)) fun _=>Al (Cn (t:=Ae) 2 rfl rfl) fun x1=>Ai<|Ap (A1 (t:=Ae) (u:=Ae) (Af rfl) rfl rfl (Ay _) rfl rfl) fun x2=>Al (Dg (Af rfl) (Af rfl) rfl rfl (Ay _) rfl) fun x3=>Ac<|Aa.ret (.one (Hk rfl rfl rfl (Ay _) rfl rfl))
theorem TI:Spec tb CT [Ae] [Ae] (fun a=>Rp a):=
 Spec.of Wc rfl rfl rfl Se
noncomputable def F9(a0:An):Option Bool:=(FZ a0.Word).bind fun x2=>if(decide (x2=[]))=true then some false else ((fun(k12:Bool→Option _)=>if(decide (a0.Word=1))=true then k12 (decide (a0.Word=1)) else if(decide (a0.Word=5))=true then k12 (decide (a0.Word=5)) else k12 (decide (a0.Word=8))) fun p11=>if p11=true then (some ():Option Unit).bind (fun(p13:Unit)=>some (.inl (()))) else if(decide (a0.Word=9))=true then (some ():Option Unit).bind (fun(p15:Unit)=>some (.inr (.inl (())))) else if(decide (a0.Word=12))=true then (some ():Option Unit).bind (fun(p17:Unit)=>some (.inr (.inr (.inl (()))))) else (fun(k20:Bool→Option _)=>if(decide (a0.Word=2))=true then k20 (decide (a0.Word=2)) else k20 (decide (a0.Word=10))) fun p19=>if p19=true then (some ():Option Unit).bind (fun(p21:Unit)=>some (.inr (.inr (.inr (.inl (((65535:UInt64),(0:UInt64)))))))) else if(decide (a0.Word=3))=true then (some ():Option Unit).bind (fun(p23:Unit)=>some (.inr (.inr (.inr (.inl (((4294967295:UInt64),(0:UInt64)))))))) else if(decide (a0.Word=13))=true then (some ():Option Unit).bind (fun(p25:Unit)=>some (.inr (.inr (.inr (.inl (((1:UInt64),(1:UInt64)))))))) else (fun(k28:Bool→Option _)=>if(decide (a0.Word=14))=true then k28 (decide (a0.Word=14)) else k28 (decide (a0.Word=15))) fun p27=>if p27=true then (some ():Option Unit).bind (fun(p29:Unit)=>some (.inr (.inr (.inr (.inl (((18446744073709551615:UInt64),(0:UInt64)))))))) else if(decide (a0.Word=16))=true then (some ():Option Unit).bind (fun(p31:Unit)=>some (.inr (.inr (.inr (.inl (((20:UInt64),(0:UInt64))))))))
 else (some ():Option Unit).bind (fun(p32:Unit)=>some (.inr (.inr (.inr (.inr (())))))):Option (Unit⊕(Unit⊕(Unit⊕((UInt64×UInt64)⊕Unit))))).bind (Sum.elim (fun(p5:Unit)=>(Fc a0).bind fun x38=>(fun(k41:Bool→Option _)=>if x38.2=true then (LR a0).bind fun x44=>let x45:=(⟨a0.Word,(A2 32 T.u8).z,0,Aq.z,Ah.z⟩:An);k41 (G7 C0 x44 x45) else k41 false) fun x42=>some x42) (Sum.elim (fun(p6:Unit)=>(Hz a0).bind fun x48=>(fun(k51:Bool→Option _)=>if x48.2=true then (PE a0).bind fun x54=>let x55:=(⟨a0.Word,(A2 32 T.u8).z,0,Aq.z,Ah.z⟩:An);k51 (G7 C0 x54 x55) else k51 false) fun x52=>some x52) (Sum.elim (fun(p7:Unit)=>(Gj a0).bind fun x58=>(fun(k61:Bool→Option _)=>if x58.2=true then (NJ a0).bind fun x64=>let x65:=(⟨a0.Word,(A2 32 T.u8).z,0,Aq.z,Ah.z⟩:An);k61 (G7 C0 x64 x65) else k61 false) fun x62=>some x62) (Sum.elim (fun(p8:(UInt64×UInt64))=>((Dt a0.N).bind fun x70=>(De (decide ((p8.2.toNat:Int)≤(a0.N.toNat:Int))) (some (decide ((a0.N.toNat:Int)≤(p8.1.toNat:Int))))).bind fun x77=>some (x70,x77):Option (AR×Bool)).bind (fun(p68:(AR×Bool))=>(fun(k80:Bool→Option _)=>if p68.2=true then (NI a0).bind fun x83=>let x84:=(⟨a0.Word,(A2 32 T.u8).z,0,Aq.z,Ah.z⟩:An);k80 (G7 C0 x83 x84) else k80 false) fun x81=>some x81)) (fun(p9:Unit)=>(Nm a0).bind fun x87=>(fun(k90:Bool→Option _)=>if x87.2=true then (Rp a0).bind fun x93=>let x94:=(⟨a0.Word,(A2 32 T.u8).z,0,Aq.z,Ah.z⟩:An);k90 (G7 C0 x93 x94) else k90 false) fun x91=>some x91)))))
noncomputable def TQ(a:Ce [Ae]):BS tb Jo [Ae] [T.b] a:=Ad<|Al (Bt (t:=Ae) 1 rfl rfl (Af rfl)) fun _=>Aj (A3 G8)<|Ai<|Ad<|Aj (AB (Af rfl))<|Ap (A1 (t:=Ae) (u:=(T.int .i64)) (Af rfl) rfl rfl A7 rfl rfl) fun x1=>Aa.op (AF Gn (.one (Af rfl))) fun x2=>Ag (S9 (Af rfl) Gy) fun x3=>Ac<|Aa.cond (Af rfl) (Ad<|Aj (A3 G8)<|Ac<|Aa.ret (.one (AE rfl))) (Aa.skip<|Ai<|Aj (AB (Af rfl))<|Ap (A1 (t:=Ae) (u:=(T.int .i64)) (Af rfl) rfl rfl A7 rfl rfl) fun x4=>Aa.inl (τ:=(Unit⊕(Unit⊕(Unit⊕((UInt64×UInt64)⊕Unit))))) (φs:=[.val (T.int .i64) x4]) (n:=1) (L:=[(1, .cp 1 0)]) (Γr:=(Sum.elim (fun p5=>⟨[Px],[(1, .cells [(70, .val Ae a)]),DD,fL,fJ,fI]⟩) (Sum.elim (fun p6=>⟨[Px],[(1, .cells [(70, .val Ae a)]),DD,T8,T7,T6]⟩) (Sum.elim (fun p7=>⟨[Px],[(1, .cells [(70, .val Ae a)]),DD,T5,T4,T3]⟩) (Sum.elim (fun p8=>⟨[NO],[(1, .cells [(70, .val Ae a)]),(3, .cells [(1, .val T.u64 p8.1)]),(1002, .cells [(1, .val T.u64 p8.2)]),DD,FI,Lw,Lv,FH,FG,FF,FE]⟩) (fun p9=>⟨[Px],[(1, .cells [(70, .val Ae a)]),DD,T1,T0,Tz]⟩)))))) 2000000 (Sum.elim (fun p5=>⟨[lT,(1, .cp 1 0)],[(1, .cells [(70, .val Ae a)]),fL,fJ,fI]⟩) (Sum.elim (fun p6=>⟨[lT,(1, .cp 1 0)],[(1, .cells [(70, .val Ae a)]),T8,T7,T6]⟩) (Sum.elim (fun p7=>⟨[lT,(1, .cp 1 0)],[(1, .cells [(70, .val Ae a)]),T5,T4,T3]⟩) (Sum.elim (fun p8=>⟨[(12, .aggk [3600280,3600281,3600282]),(1, .cp 1 0)],[(1, .cells [(70, .val Ae a)]),(3, .cells [(1, .val T.u64 p8.1)]),(1002, .cells [(1, .val T.u64 p8.2)]),FI,Lw,Lv,FH,FG,FF,FE]⟩) (fun p9=>⟨[lT,(1, .cp 1 0)],[(1, .cells [(70, .val Ae a)]),T1,T0,Tz]⟩))))) NK rfl rfl rfl (Fg rfl) (.cons (MP (Af rfl))<| .nil) sB rfl (
 Ad<|Al (Cj 2 _ JJ rfl rfl) fun _=>Ai<|Ad<|Ab rfl<|Ac<|AD<|Ad<|Ad<|Ag (A9 rfl (Af rfl) AY) fun x10=>Ab rfl<|Ac<|H4 (τ:=Bool) (fun p11=>⟨[(2, .cp 2 0),(3, .val (T.int .i64) x4),(4, .val T.b p11)],[(1, .cells [(70, .val Ae a)]),LW,DD]⟩) (fun p11=>Ac<|Aa.cond (Af rfl) (Ad<|Aa.inl (τ:=Unit) (φs:=[]) (n:=1) (L:=[(2, .cp 2 0)]) (Γr:=(fun p13=>⟨[Px],[(1, .cells [(70, .val Ae a)]),LW,DD,ZZ,fL,fJ,fI]⟩)) 2100000 (fun p13=>⟨[(8, .aggk [3600040,3600041,3600042]),(2, .cp 2 0)],[(1, .cells [(70, .val Ae a)]),LW,DD,fL,fJ,fI]⟩) PF rfl rfl rfl (Fg rfl) (.nil) sB rfl (Ad<|Al (Cj 0 _ JJ rfl rfl) fun _=>Ai<|BA (Gz (φs:=[.fnv (.func GX) [] [], .fnv (.func C7) [] [], .fnv (.func C6) [] []]) 3600040 (.cons GM<| .cons GM<| .cons GM<| .nil) rfl rfl sB (js:=[3600040,3600041,3600042]) rfl)<|Al (Df (Af rfl) (Af rfl) rfl rfl rfl rfl) fun _=>Ac<|Bg () (.cons (DA rfl rfl rfl rfl)<| .nil) sB) (fun p13=>AW sB rfl (.one rfl) sB sB) (.one fun p13=>Al (Df (Af rfl) (Af rfl) rfl rfl rfl rfl) fun _=>Ac<|Bg (.inl (())) (.cons (DA rfl rfl rfl rfl)<| .nil) sB)) (Ad<|Ag (A9 rfl (Af rfl) AY) fun x14=>Ab rfl<|Ac<|Aa.cond (Af rfl) (Ad<|Aa.inl (τ:=Unit) (φs:=[]) (n:=1) (L:=[(2, .cp 2 0)]) (Γr:=(fun p15=>⟨[Px],[(1, .cells [(70, .val Ae a)]),LW,DD,ZZ,T8,T7,T6]⟩)) 2100000 (fun p15=>⟨[(11, .aggk [3600040,3600041,3600042]),(2, .cp 2 0)],[(1, .cells [(70, .val Ae a)]),LW,DD,T8,T7,T6]⟩) PG rfl rfl rfl (Fg rfl) (.nil) sB rfl (Ad<|Al (Cj 0 _ JJ rfl rfl) fun _=>Ai<|BA (Gz (φs:=[.fnv (.func GY) [] [], .fnv (.func C9) [] [], .fnv (.func C8) [] []]) 3600040 (.cons GM<| .cons GM<| .cons GM<| .nil) rfl rfl sB (js:=[3600040,3600041,3600042]) rfl)<|
 Al (Df (Af rfl) (Af rfl) rfl rfl rfl rfl) fun _=>Ac<|Bg () (.cons (DA rfl rfl rfl rfl)<| .nil) sB) (fun p15=>AW sB rfl (.one rfl) sB sB) (.one fun p15=>Al (Df (Af rfl) (Af rfl) rfl rfl rfl rfl) fun _=>Ac<|Bg (.inr (.inl (()))) (.cons (DA rfl rfl rfl rfl)<| .nil) sB)) (Ad<|Ag (A9 rfl (Af rfl) AY) fun x16=>Ab rfl<|Ac<|Aa.cond (Af rfl) (Ad<|Aa.inl (τ:=Unit) (φs:=[]) (n:=1) (L:=[(2, .cp 2 0)]) (Γr:=(fun p17=>⟨[Px],[(1, .cells [(70, .val Ae a)]),LW,DD,ZZ,T5,T4,T3]⟩)) 2100000 (fun p17=>⟨[(14, .aggk [3600040,3600041,3600042]),(2, .cp 2 0)],[(1, .cells [(70, .val Ae a)]),LW,DD,T5,T4,T3]⟩) NL rfl rfl rfl (Fg rfl) (.nil) sB rfl (Ad<|Al (Cj 0 _ JJ rfl rfl) fun _=>Ai<|BA (Gz (φs:=[.fnv (.func FX) [] [], .fnv (.func Cg) [] [], .fnv (.func Cf) [] []]) 3600040 (.cons GM<| .cons GM<| .cons GM<| .nil) rfl rfl sB (js:=[3600040,3600041,3600042]) rfl)<|Al (Df (Af rfl) (Af rfl) rfl rfl rfl rfl) fun _=>Ac<|Bg () (.cons (DA rfl rfl rfl rfl)<| .nil) sB) (fun p17=>AW sB rfl (.one rfl) sB sB) (.one fun p17=>Al (Df (Af rfl) (Af rfl) rfl rfl rfl rfl) fun _=>Ac<|Bg (.inr (.inr (.inl (())))) (.cons (DA rfl rfl rfl rfl)<| .nil) sB)) (Ad<|Ad<|Ag (A9 rfl (Af rfl) AY) fun x18=>Ab rfl<|Ac<|H4 (τ:=Bool) (fun p19=>⟨[(2, .cp 2 0),(3, .val (T.int .i64) x4),(15, .val T.b p19)],[(1, .cells [(70, .val Ae a)]),LW,DD]⟩) (fun p19=>Ac<|Aa.cond (Af rfl) (Ad<|Aa.inl (τ:=Unit) (φs:=[.val T.u64 (0:UInt64), .val T.u64 (65535:UInt64)]) (n:=1) (L:=[(2, .cp 2 0)]) (Γr:=(fun p21=>⟨[NO],[(1, .cells [(70, .val Ae a)]),LW,lY,T2,DD,ZZ,FI,Lw,Lv,FH,FG,FF,FE]⟩)) 2100000 (fun p21=>⟨[(18, .aggk [3600280,3600281,3600282]),(2, .cp 2 0)],[(1, .cells [(70, .val Ae a)]),LW,lY,T2,DD,FI,Lw,Lv,FH,FG,FF,FE]⟩) C2 rfl rfl rfl (Fg rfl) (.cons (MP (Dz 0 rfl))<| .cons (MP (Dz 65535 rfl))<| .nil) sB rfl (
 Ad<|Al (Bt (t:=T.u64) 1002 rfl rfl (Af rfl)) fun _=>Al (Bt (t:=T.u64) 3 rfl rfl (Af rfl)) fun _=>Al (Cj 4 _ JJ rfl rfl) fun _=>Ai<|BA (Ij (φs:=[]) (ψs:=[.cp 3 0, .cp 1002 0]) 3600200 (.nil) (.cons (Af rfl)<| .cons (Af rfl)<| .nil) rfl sB (js:=[]) (ks:=[3600200,3600201]) rfl rfl)<|BA (Ij (φs:=[]) (ψs:=[.cp 1002 0, .cp 3 0]) 3600240 (.nil) (.cons (Af rfl)<| .cons (Af rfl)<| .nil) rfl sB (js:=[]) (ks:=[3600240,3600241]) rfl rfl)<|BA (Gz (φs:=[.fnv (.func B1) [] [3600200,3600201], .fnv (.func Bj) [] [3600240,3600241], .fnv (.func Bd) [] []]) 3600280 (.cons (Af rfl)<| .cons (Af rfl)<| .cons GM<| .nil) rfl rfl sB (js:=[3600280,3600281,3600282]) rfl)<|Al (Df (Af rfl) (Af rfl) rfl rfl rfl rfl) fun _=>Ac<|Bg () (.cons (DA rfl rfl rfl rfl)<| .nil) sB) (fun p21=>AW sB rfl (.one rfl) sB sB) (.one fun p21=>Al (Df (Af rfl) (Af rfl) rfl rfl rfl rfl) fun _=>Ac<|Bg (.inr (.inr (.inr (.inl (((65535:UInt64),(0:UInt64))))))) (.cons (DA rfl rfl rfl rfl)<| .nil) sB)) (Ad<|Ag (A9 rfl (Af rfl) AY) fun x22=>Ab rfl<|Ac<|Aa.cond (Af rfl) (Ad<|Aa.inl (τ:=Unit) (φs:=[.val T.u64 (0:UInt64), .val T.u64 (4294967295:UInt64)]) (n:=1) (L:=[(2, .cp 2 0)]) (Γr:=(fun p23=>⟨[NO],[(1, .cells [(70, .val Ae a)]),LW,lX,T2,DD,ZZ,FI,Lw,Lv,FH,FG,FF,FE]⟩)) 2100000 (fun p23=>⟨[(21, .aggk [3600280,3600281,3600282]),(2, .cp 2 0)],[(1, .cells [(70, .val Ae a)]),LW,lX,T2,DD,FI,Lw,Lv,FH,FG,FF,FE]⟩) C2 rfl rfl rfl (Fg rfl) (.cons (MP (Dz 0 rfl))<| .cons (MP (Dz 4294967295 rfl))<| .nil) sB rfl (Ad<|Al (Bt (t:=T.u64) 1002 rfl rfl (Af rfl)) fun _=>
 Al (Bt (t:=T.u64) 3 rfl rfl (Af rfl)) fun _=>Al (Cj 4 _ JJ rfl rfl) fun _=>Ai<|BA (Ij (φs:=[]) (ψs:=[.cp 3 0, .cp 1002 0]) 3600200 (.nil) (.cons (Af rfl)<| .cons (Af rfl)<| .nil) rfl sB (js:=[]) (ks:=[3600200,3600201]) rfl rfl)<|BA (Ij (φs:=[]) (ψs:=[.cp 1002 0, .cp 3 0]) 3600240 (.nil) (.cons (Af rfl)<| .cons (Af rfl)<| .nil) rfl sB (js:=[]) (ks:=[3600240,3600241]) rfl rfl)<|BA (Gz (φs:=[.fnv (.func B1) [] [3600200,3600201], .fnv (.func Bj) [] [3600240,3600241], .fnv (.func Bd) [] []]) 3600280 (.cons (Af rfl)<| .cons (Af rfl)<| .cons GM<| .nil) rfl rfl sB (js:=[3600280,3600281,3600282]) rfl)<|Al (Df (Af rfl) (Af rfl) rfl rfl rfl rfl) fun _=>Ac<|Bg () (.cons (DA rfl rfl rfl rfl)<| .nil) sB) (fun p23=>AW sB rfl (.one rfl) sB sB) (.one fun p23=>Al (Df (Af rfl) (Af rfl) rfl rfl rfl rfl) fun _=>Ac<|Bg (.inr (.inr (.inr (.inl (((4294967295:UInt64),(0:UInt64))))))) (.cons (DA rfl rfl rfl rfl)<| .nil) sB)) (Ad<|Ag (A9 rfl (Af rfl) AY) fun x24=>Ab rfl<|Ac<|Aa.cond (Af rfl) (Ad<|Aa.inl (τ:=Unit) (φs:=[.val T.u64 (1:UInt64), .val T.u64 (1:UInt64)]) (n:=1) (L:=[(2, .cp 2 0)]) (Γr:=(fun p25=>⟨[NO],[(1, .cells [(70, .val Ae a)]),LW,lW,en_32,DD,ZZ,FI,Lw,Lv,FH,FG,FF,FE]⟩)) 2100000 (fun p25=>⟨[(24, .aggk [3600280,3600281,3600282]),(2, .cp 2 0)],[(1, .cells [(70, .val Ae a)]),LW,lW,en_32,DD,FI,Lw,Lv,FH,FG,FF,FE]⟩) C2 rfl rfl rfl (Fg rfl) (.cons (MP (Dz 1 rfl))<| .cons (MP (Dz 1 rfl))<| .nil) sB rfl (Ad<|Al (Bt (t:=T.u64) 1002 rfl rfl (Af rfl)) fun _=>Al (Bt (t:=T.u64) 3 rfl rfl (Af rfl)) fun _=>
 Al (Cj 4 _ JJ rfl rfl) fun _=>Ai<|BA (Ij (φs:=[]) (ψs:=[.cp 3 0, .cp 1002 0]) 3600200 (.nil) (.cons (Af rfl)<| .cons (Af rfl)<| .nil) rfl sB (js:=[]) (ks:=[3600200,3600201]) rfl rfl)<|BA (Ij (φs:=[]) (ψs:=[.cp 1002 0, .cp 3 0]) 3600240 (.nil) (.cons (Af rfl)<| .cons (Af rfl)<| .nil) rfl sB (js:=[]) (ks:=[3600240,3600241]) rfl rfl)<|BA (Gz (φs:=[.fnv (.func B1) [] [3600200,3600201], .fnv (.func Bj) [] [3600240,3600241], .fnv (.func Bd) [] []]) 3600280 (.cons (Af rfl)<| .cons (Af rfl)<| .cons GM<| .nil) rfl rfl sB (js:=[3600280,3600281,3600282]) rfl)<|Al (Df (Af rfl) (Af rfl) rfl rfl rfl rfl) fun _=>Ac<|Bg () (.cons (DA rfl rfl rfl rfl)<| .nil) sB) (fun p25=>AW sB rfl (.one rfl) sB sB) (.one fun p25=>Al (Df (Af rfl) (Af rfl) rfl rfl rfl rfl) fun _=>Ac<|Bg (.inr (.inr (.inr (.inl (((1:UInt64),(1:UInt64))))))) (.cons (DA rfl rfl rfl rfl)<| .nil) sB)) (Ad<|Ad<|Ag (A9 rfl (Af rfl) AY) fun x26=>Ab rfl<|Ac<|H4 (τ:=Bool) (fun p27=>⟨[(2, .cp 2 0),(3, .val (T.int .i64) x4),(25, .val T.b p27)],[(1, .cells [(70, .val Ae a)]),LW,DD]⟩) (fun p27=>Ac<|Aa.cond (Af rfl) (Ad<|Aa.inl (τ:=Unit) (φs:=[.val T.u64 (0:UInt64), .val T.u64 (18446744073709551615:UInt64)]) (n:=1) (L:=[(2, .cp 2 0)]) (Γr:=(fun p29=>⟨[NO],[(1, .cells [(70, .val Ae a)]),LW,lV,T2,DD,ZZ,FI,Lw,Lv,FH,FG,FF,FE]⟩)) 2100000 (fun p29=>⟨[(28, .aggk [3600280,3600281,3600282]),(2, .cp 2 0)],[(1, .cells [(70, .val Ae a)]),LW,lV,T2,DD,FI,Lw,Lv,FH,FG,FF,FE]⟩) C2 rfl rfl rfl (Fg rfl) (.cons (MP (Dz 0 rfl))<| .cons (MP (Dz 18446744073709551615 rfl))<| .nil) sB rfl (
 Ad<|Al (Bt (t:=T.u64) 1002 rfl rfl (Af rfl)) fun _=>Al (Bt (t:=T.u64) 3 rfl rfl (Af rfl)) fun _=>Al (Cj 4 _ JJ rfl rfl) fun _=>Ai<|BA (Ij (φs:=[]) (ψs:=[.cp 3 0, .cp 1002 0]) 3600200 (.nil) (.cons (Af rfl)<| .cons (Af rfl)<| .nil) rfl sB (js:=[]) (ks:=[3600200,3600201]) rfl rfl)<|BA (Ij (φs:=[]) (ψs:=[.cp 1002 0, .cp 3 0]) 3600240 (.nil) (.cons (Af rfl)<| .cons (Af rfl)<| .nil) rfl sB (js:=[]) (ks:=[3600240,3600241]) rfl rfl)<|BA (Gz (φs:=[.fnv (.func B1) [] [3600200,3600201], .fnv (.func Bj) [] [3600240,3600241], .fnv (.func Bd) [] []]) 3600280 (.cons (Af rfl)<| .cons (Af rfl)<| .cons GM<| .nil) rfl rfl sB (js:=[3600280,3600281,3600282]) rfl)<|Al (Df (Af rfl) (Af rfl) rfl rfl rfl rfl) fun _=>Ac<|Bg () (.cons (DA rfl rfl rfl rfl)<| .nil) sB) (fun p29=>AW sB rfl (.one rfl) sB sB) (.one fun p29=>Al (Df (Af rfl) (Af rfl) rfl rfl rfl rfl) fun _=>Ac<|Bg (.inr (.inr (.inr (.inl (((18446744073709551615:UInt64),(0:UInt64))))))) (.cons (DA rfl rfl rfl rfl)<| .nil) sB)) (Ad<|Ag (A9 rfl (Af rfl) AY) fun x30=>Ab rfl<|Ac<|Aa.cond (Af rfl) (Ad<|Aa.inl (τ:=Unit) (φs:=[.val T.u64 (0:UInt64), .val T.u64 (20:UInt64)]) (n:=1) (L:=[(2, .cp 2 0)]) (Γr:=(fun p31=>⟨[NO],[(1, .cells [(70, .val Ae a)]),LW,lU,T2,DD,ZZ,FI,Lw,Lv,FH,FG,FF,FE]⟩)) 2100000 (fun p31=>⟨[(31, .aggk [3600280,3600281,3600282]),(2, .cp 2 0)],[(1, .cells [(70, .val Ae a)]),LW,lU,T2,DD,FI,Lw,Lv,FH,FG,FF,FE]⟩) C2 rfl rfl rfl (Fg rfl) (.cons (MP (Dz 0 rfl))<| .cons (MP (Dz 20 rfl))<| .nil) sB rfl (Ad<|Al (Bt (t:=T.u64) 1002 rfl rfl (Af rfl)) fun _=>
 Al (Bt (t:=T.u64) 3 rfl rfl (Af rfl)) fun _=>Al (Cj 4 _ JJ rfl rfl) fun _=>Ai<|BA (Ij (φs:=[]) (ψs:=[.cp 3 0, .cp 1002 0]) 3600200 (.nil) (.cons (Af rfl)<| .cons (Af rfl)<| .nil) rfl sB (js:=[]) (ks:=[3600200,3600201]) rfl rfl)<|BA (Ij (φs:=[]) (ψs:=[.cp 1002 0, .cp 3 0]) 3600240 (.nil) (.cons (Af rfl)<| .cons (Af rfl)<| .nil) rfl sB (js:=[]) (ks:=[3600240,3600241]) rfl rfl)<|BA (Gz (φs:=[.fnv (.func B1) [] [3600200,3600201], .fnv (.func Bj) [] [3600240,3600241], .fnv (.func Bd) [] []]) 3600280 (.cons (Af rfl)<| .cons (Af rfl)<| .cons GM<| .nil) rfl rfl sB (js:=[3600280,3600281,3600282]) rfl)<|Al (Df (Af rfl) (Af rfl) rfl rfl rfl rfl) fun _=>Ac<|Bg () (.cons (DA rfl rfl rfl rfl)<| .nil) sB) (fun p31=>AW sB rfl (.one rfl) sB sB) (.one fun p31=>Al (Df (Af rfl) (Af rfl) rfl rfl rfl rfl) fun _=>Ac<|Bg (.inr (.inr (.inr (.inl (((20:UInt64),(0:UInt64))))))) (.cons (DA rfl rfl rfl rfl)<| .nil) sB)) (Aa.skip<|AN<|Ai<|Aa.inl (τ:=Unit) (φs:=[]) (n:=1) (L:=[(2, .cp 2 0)]) (Γr:=(fun p32=>⟨[Px],[(1, .cells [(70, .val Ae a)]),LW,DD,ZZ,T1,T0,Tz]⟩)) 2100000 (fun p32=>⟨[(32, .aggk [3600040,3600041,3600042]),(2, .cp 2 0)],[(1, .cells [(70, .val Ae a)]),LW,DD,T1,T0,Tz]⟩) Rt rfl rfl rfl (Fg rfl) (.nil) sB rfl (Ad<|Al (Cj 0 _ JJ rfl rfl) fun _=>Ai<|BA (Gz (φs:=[.fnv (.func H8) [] [], .fnv (.func CU) [] [], .fnv (.func CT) [] []]) 3600040 (.cons GM<| .cons GM<| .cons GM<| .nil) rfl rfl sB (js:=[3600040,3600041,3600042]) rfl)<|Al (Df (Af rfl) (Af rfl) rfl rfl rfl rfl) fun _=>Ac<|Bg () (.cons (DA rfl rfl rfl rfl)<| .nil) sB) (fun p32=>AW sB rfl (.one rfl) sB sB) (.one fun p32=>
 Al (Df (Af rfl) (Af rfl) rfl rfl rfl rfl) fun _=>Ac<|Bg (.inr (.inr (.inr (.inr (()))))) (.cons (DA rfl rfl rfl rfl)<| .nil) sB)))) fun k28=>Aa.cond (Af rfl) (Aa.skip<|Aa.weak (k28 x26) sB) (Ag (A9 rfl (Af rfl) AY) fun x33=>Ab rfl<|Aa.weak (k28 x33) sB))))) fun k20=>Aa.cond (Af rfl) (Aa.skip<|Aa.weak (k20 x18) sB) (Ag (A9 rfl (Af rfl) AY) fun x34=>Ab rfl<|Aa.weak (k20 x34) sB))))) fun k12=>Aa.cond (Af rfl) (Aa.skip<|Aa.weak (k12 x10) sB) (Ad<|Ag (A9 rfl (Af rfl) AY) fun x35=>Ab rfl<|Ac<|Aa.cond (Af rfl) (Aa.skip<|Aa.weak (k12 x35) sB) (Ag (A9 rfl (Af rfl) AY) fun x36=>Ab rfl<|Aa.weak (k12 x36) sB))) (LH (fun p5=>AW sB rfl (.one rfl) sB sB) (LH (fun p6=>AW sB rfl (.one rfl) sB sB) (LH (fun p7=>AW sB rfl (.one rfl) sB sB) (LH (fun p8=>AW sB rfl (.one rfl) sB sB) (fun p9=>AW sB rfl (.one rfl) sB sB))))) (.alt (.one fun p5=>Al (Cj 3 _ JJ rfl rfl) fun _=>Al (Df (Af rfl) (Af rfl) rfl rfl rfl rfl) fun _=>Ai<|Aj (AB (Af rfl))<|Aj (LQ (Af rfl) rfl rfl rfl)<|Ap (A1 (t:=Ae) (u:=Ae) (Af rfl) rfl rfl (Ay _) rfl rfl) fun x37=>Aa.op (J5 Mf (Gd (Qf rfl rfl) rfl) (.one (MP (Af rfl)))) fun x38=>Ab rfl<|Ap (Cp (Af rfl) rfl) fun x39=>Ap (Cp (Af rfl) rfl) fun x40=>Ab rfl<|Ab rfl<|Ai<|Aa.regd 1<|A6 rfl (A3 (Af rfl))<|A6 rfl (A3 (Af rfl))<|MC ⟨[],[]⟩ 8 rfl rfl rfl (fun _=>sB) rfl rfl (fun x42=>A6 rfl (A3 (Af rfl))<|CO<|Ac<|Aa.ret (.one (AE rfl))) fun k41=>A6 rfl (AB (Af rfl))<|A6 rfl (LQ (Af rfl) rfl rfl rfl)<|DZ rfl (A1 (t:=Ae) (u:=Ae) (Af rfl) rfl rfl (Ay _) rfl rfl) fun x43=>SimDW.op rfl (fun _=> .nil) (.new (c:=⟨false,1,1,0,0,(T.int .i64),A7.get a⟩) rfl (MD A7 rfl rfl rfl rfl rfl)<| .nil) (O3 RV (Gd (Qf rfl rfl) rfl) (.one (MP (Af rfl)))) fun x44=>
 A6 rfl (AB (Af rfl))<|Fh 0 rfl rfl rfl rfl rfl Ck (A1 (t:=Ae) (u:=(T.int .i64)) (Af rfl) rfl rfl A7 rfl rfl)<|BB rfl (D4 rfl rfl (.cons A7 rfl (Af rfl)<| .nil _)) fun x45=>BB rfl (M1 C0 rfl rfl (Af rfl) (Af rfl)) fun x46=>KY (Γ0:=⟨[],[]⟩) rfl (Af rfl) sB rfl k41) (.alt (.one fun p6=>Al (Cj 3 _ JJ rfl rfl) fun _=>Al (Df (Af rfl) (Af rfl) rfl rfl rfl rfl) fun _=>Ai<|Aj (AB (Af rfl))<|Aj (LQ (Af rfl) rfl rfl rfl)<|Ap (A1 (t:=Ae) (u:=Ae) (Af rfl) rfl rfl (Ay _) rfl rfl) fun x47=>Aa.op (J5 Mg (Gd (Qf rfl rfl) rfl) (.one (MP (Af rfl)))) fun x48=>Ab rfl<|Ap (Cp (Af rfl) rfl) fun x49=>Ap (Cp (Af rfl) rfl) fun x50=>Ab rfl<|Ab rfl<|Ai<|Aa.regd 1<|A6 rfl (A3 (Af rfl))<|A6 rfl (A3 (Af rfl))<|MC ⟨[],[]⟩ 8 rfl rfl rfl (fun _=>sB) rfl rfl (fun x52=>A6 rfl (A3 (Af rfl))<|CO<|Ac<|Aa.ret (.one (AE rfl))) fun k51=>A6 rfl (AB (Af rfl))<|A6 rfl (LQ (Af rfl) rfl rfl rfl)<|DZ rfl (A1 (t:=Ae) (u:=Ae) (Af rfl) rfl rfl (Ay _) rfl rfl) fun x53=>SimDW.op rfl (fun _=> .nil) (.new (c:=⟨false,1,1,0,0,(T.int .i64),A7.get a⟩) rfl (MD A7 rfl rfl rfl rfl rfl)<| .nil) (O3 RW (Gd (Qf rfl rfl) rfl) (.one (MP (Af rfl)))) fun x54=>A6 rfl (AB (Af rfl))<|Fh 0 rfl rfl rfl rfl rfl Ck (A1 (t:=Ae) (u:=(T.int .i64)) (Af rfl) rfl rfl A7 rfl rfl)<|BB rfl (D4 rfl rfl (.cons A7 rfl (Af rfl)<| .nil _)) fun x55=>BB rfl (M1 C0 rfl rfl (Af rfl) (Af rfl)) fun x56=>KY (Γ0:=⟨[],[]⟩) rfl (Af rfl) sB rfl k51) (.alt (.one fun p7=>Al (Cj 3 _ JJ rfl rfl) fun _=>Al (Df (Af rfl) (Af rfl) rfl rfl rfl rfl) fun _=>Ai<|Aj (AB (Af rfl))<|Aj (LQ (Af rfl) rfl rfl rfl)<|
 Ap (A1 (t:=Ae) (u:=Ae) (Af rfl) rfl rfl (Ay _) rfl rfl) fun x57=>Aa.op (J5 KJ (Gd (Qf rfl rfl) rfl) (.one (MP (Af rfl)))) fun x58=>Ab rfl<|Ap (Cp (Af rfl) rfl) fun x59=>Ap (Cp (Af rfl) rfl) fun x60=>Ab rfl<|Ab rfl<|Ai<|Aa.regd 1<|A6 rfl (A3 (Af rfl))<|A6 rfl (A3 (Af rfl))<|MC ⟨[],[]⟩ 8 rfl rfl rfl (fun _=>sB) rfl rfl (fun x62=>A6 rfl (A3 (Af rfl))<|CO<|Ac<|Aa.ret (.one (AE rfl))) fun k61=>A6 rfl (AB (Af rfl))<|A6 rfl (LQ (Af rfl) rfl rfl rfl)<|DZ rfl (A1 (t:=Ae) (u:=Ae) (Af rfl) rfl rfl (Ay _) rfl rfl) fun x63=>SimDW.op rfl (fun _=> .nil) (.new (c:=⟨false,1,1,0,0,(T.int .i64),A7.get a⟩) rfl (MD A7 rfl rfl rfl rfl rfl)<| .nil) (O3 PO (Gd (Qf rfl rfl) rfl) (.one (MP (Af rfl)))) fun x64=>A6 rfl (AB (Af rfl))<|Fh 0 rfl rfl rfl rfl rfl Ck (A1 (t:=Ae) (u:=(T.int .i64)) (Af rfl) rfl rfl A7 rfl rfl)<|BB rfl (D4 rfl rfl (.cons A7 rfl (Af rfl)<| .nil _)) fun x65=>BB rfl (M1 C0 rfl rfl (Af rfl) (Af rfl)) fun x66=>KY (Γ0:=⟨[],[]⟩) rfl (Af rfl) sB rfl k61) (.alt (.one fun p8=>Al (Cj 1003 _ JJ rfl rfl) fun _=>Al (Df (Af rfl) (Af rfl) rfl rfl rfl rfl) fun _=>Ai<|Aj (AB (Af rfl))<|Aj (LQ (Af rfl) rfl rfl rfl)<|Ap (A1 (t:=Ae) (u:=Ae) (Af rfl) rfl rfl (Ay _) rfl rfl) fun x67=>Aa.inl (τ:=(AR×Bool)) (φs:=[.val Ae x67, .cp 1002 0, .cp 3 0]) (n:=2) (L:=[(1, .cp 1 0),(3, .cp 1003 0)]) (Γr:=(fun p68=>⟨[(0, .val A5 p68.1),(1, .val T.b p68.2)],[(1, .cells [(70, .val Ae a)]),(3, .cells [(1, .val T.u64 p8.1)]),(1002, .cells [(1, .val T.u64 p8.2)]),en_43,DD,(2000003, .ghost (.cp 1003 0)),FI,Lw,Lv,FH,FG,FF,FE]⟩)) 2000000 (fun p68=>⟨[(17, .tup [⟨A5,p68.1⟩,⟨T.b,p68.2⟩]),(1, .cp 1 0),(3, .cp 1003 0)],[(1, .cells [(70, .val Ae a)]),(3, .cells [(1, .val T.u64 p8.1)]),(1002, .cells [(1, .val T.u64 p8.2)]),en_43,FI,Lw,Lv,FH,FG,FF,FE]⟩) Lu rfl rfl rfl (Gd (Qf rfl rfl) rfl) (.cons (MP (Af rfl))<| .cons (s_k rfl)<| .cons (s_k rfl)<| .nil) sB rfl (
 Ad<|Al (Bt (t:=Ae) 2003 rfl rfl (Af rfl)) fun _=>Aj (A3 Gy)<|Aj (A3 G8)<|Ai<|Aj (AB (Af rfl))<|Ap (A1 (t:=Ae) (u:=T.u64) (Af rfl) rfl rfl BY rfl rfl) fun x69=>Aa.op (AF Gg (.one (Af rfl))) fun x70=>Aj (AB (Af rfl))<|Ap (A1 (t:=Ae) (u:=T.u64) (Af rfl) rfl rfl BY rfl rfl) fun x71=>Ap (A1 (t:=T.u64) (u:=T.u64) (Af rfl) rfl rfl (Ay _) rfl rfl) fun x72=>Ag (Ey (I:=IT.u64) rfl (Af rfl) (Af rfl)) fun x73=>Ab rfl<|Aa.and 4 rfl rfl rfl (AU (AB (Af rfl))<|Bk (A1 (t:=Ae) (u:=T.u64) (Af rfl) rfl rfl BY rfl rfl) fun x74=>Bk (A1 (t:=T.u64) (u:=T.u64) (Af rfl) rfl rfl (Ay _) rfl rfl) fun x75=>Bf (Ey (I:=IT.u64) rfl (Af rfl) (Af rfl)) fun x76=>Bl.nil (Af rfl)) fun x77=>Ab rfl<|Ab rfl<|Ac<|Bg (x70,x77) (.cons (yC rfl)<| .cons (yC rfl)<| .nil) sB) (fun p68=>AW sB rfl (.vals rfl (by intro i p h;match i,h with|0,h=>(cases h;rfl)|1,h=>(cases h;rfl)|(_+2),h=>simp at h)) trivial sB) (.one fun p68=>Ab rfl<|Ap (Cp (Af rfl) rfl) fun x78=>Ap (Cp (Af rfl) rfl) fun x79=>Ab rfl<|Ab rfl<|Ai<|Aa.regd 1<|A6 rfl (A3 (Af rfl))<|A6 rfl (A3 (Af rfl))<|MC ⟨[],[]⟩ 8 rfl rfl rfl (fun _=>sB) rfl rfl (fun x81=>A6 rfl (A3 (Af rfl))<|CO<|Ac<|Aa.ret (.one (AE rfl))) fun k80=>A6 rfl (AB (Af rfl))<|A6 rfl (LQ (Af rfl) rfl rfl rfl)<|DZ rfl (A1 (t:=Ae) (u:=Ae) (Af rfl) rfl rfl (Ay _) rfl rfl) fun x82=>SimDW.op rfl (fun _=> .nil) (.new (c:=⟨false,1,1,0,0,(T.int .i64),A7.get a⟩) rfl (MD A7 rfl rfl rfl rfl rfl)<| .nil) (O3 PN (Gd (Qf rfl rfl) rfl) (.one (MP (Af rfl)))) fun x83=>A6 rfl (AB (Af rfl))<|Fh 0 rfl rfl rfl rfl rfl Ck (A1 (t:=Ae) (u:=(T.int .i64)) (Af rfl) rfl rfl A7 rfl rfl)<|
 BB rfl (D4 rfl rfl (.cons A7 rfl (Af rfl)<| .nil _)) fun x84=>BB rfl (M1 C0 rfl rfl (Af rfl) (Af rfl)) fun x85=>KY (Γ0:=⟨[],[]⟩) rfl (Af rfl) sB rfl k80)) (.one fun p9=>Al (Cj 3 _ JJ rfl rfl) fun _=>Al (Df (Af rfl) (Af rfl) rfl rfl rfl rfl) fun _=>Ai<|Aj (AB (Af rfl))<|Aj (LQ (Af rfl) rfl rfl rfl)<|Ap (A1 (t:=Ae) (u:=Ae) (Af rfl) rfl rfl (Ay _) rfl rfl) fun x86=>Aa.op (J5 NE (Gd (Qf rfl rfl) rfl) (.one (MP (Af rfl)))) fun x87=>Ab rfl<|Ap (Cp (Af rfl) rfl) fun x88=>Ap (Cp (Af rfl) rfl) fun x89=>Ab rfl<|Ab rfl<|Ai<|Aa.regd 1<|A6 rfl (A3 (Af rfl))<|A6 rfl (A3 (Af rfl))<|MC ⟨[],[]⟩ 8 rfl rfl rfl (fun _=>sB) rfl rfl (fun x91=>A6 rfl (A3 (Af rfl))<|CO<|Ac<|Aa.ret (.one (AE rfl))) fun k90=>A6 rfl (AB (Af rfl))<|A6 rfl (LQ (Af rfl) rfl rfl rfl)<|DZ rfl (A1 (t:=Ae) (u:=Ae) (Af rfl) rfl rfl (Ay _) rfl rfl) fun x92=>SimDW.op rfl (fun _=> .nil) (.new (c:=⟨false,1,1,0,0,(T.int .i64),A7.get a⟩) rfl (MD A7 rfl rfl rfl rfl rfl)<| .nil) (O3 TI (Gd (Qf rfl rfl) rfl) (.one (MP (Af rfl)))) fun x93=>A6 rfl (AB (Af rfl))<|Fh 0 rfl rfl rfl rfl rfl Ck (A1 (t:=Ae) (u:=(T.int .i64)) (Af rfl) rfl rfl A7 rfl rfl)<|BB rfl (D4 rfl rfl (.cons A7 rfl (Af rfl)<| .nil _)) fun x94=>BB rfl (M1 C0 rfl rfl (Af rfl) (Af rfl)) fun x95=>KY (Γ0:=⟨[],[]⟩) rfl (Af rfl) sB rfl k90))))))
theorem UW:Spec tb Fz [Ae] [T.b] (fun a=>F9 a):=
 Spec.of X2 rfl rfl rfl TQ
noncomputable def Fd(a0:An):Option (A0×Int):=(F9 a0).bind fun x3=>if(!x3)=true then some ((⟨[],[]⟩:A0),1) else ((fun(k15:Bool→Option _)=>if(decide (a0.Word=1))=true then k15 (decide (a0.Word=1)) else if(decide (a0.Word=5))=true then k15 (decide (a0.Word=5)) else k15 (decide (a0.Word=8))) fun p14=>if p14=true then (some ():Option Unit).bind (fun(p16:Unit)=>some (.inl (()))) else if(decide (a0.Word=9))=true then (some ():Option Unit).bind (fun(p18:Unit)=>some (.inr (.inl (())))) else if(decide (a0.Word=12))=true then (some ():Option Unit).bind (fun(p20:Unit)=>some (.inr (.inr (.inl (()))))) else (fun(k23:Bool→Option _)=>if(decide (a0.Word=2))=true then k23 (decide (a0.Word=2)) else k23 (decide (a0.Word=10))) fun p22=>if p22=true then (some ():Option Unit).bind (fun(p24:Unit)=>some (.inr (.inr (.inr (.inl (((65535:UInt64),(0:UInt64)))))))) else if(decide (a0.Word=3))=true then (some ():Option Unit).bind (fun(p26:Unit)=>some (.inr (.inr (.inr (.inl (((4294967295:UInt64),(0:UInt64)))))))) else if(decide (a0.Word=13))=true then (some ():Option Unit).bind (fun(p28:Unit)=>some (.inr (.inr (.inr (.inl (((1:UInt64),(1:UInt64)))))))) else (fun(k31:Bool→Option _)=>if(decide (a0.Word=14))=true then k31 (decide (a0.Word=14)) else k31 (decide (a0.Word=15))) fun p30=>if p30=true then (some ():Option Unit).bind (fun(p32:Unit)=>some (.inr (.inr (.inr (.inl (((18446744073709551615:UInt64),(0:UInt64)))))))) else if(decide (a0.Word=16))=true then (some ():Option Unit).bind (fun(p34:Unit)=>some (.inr (.inr (.inr (.inl (((20:UInt64),(0:UInt64))))))))
 else (some ():Option Unit).bind (fun(p35:Unit)=>some (.inr (.inr (.inr (.inr (())))))):Option (Unit⊕(Unit⊕(Unit⊕((UInt64×UInt64)⊕Unit))))).bind (Sum.elim (fun(p8:Unit)=>(Fc a0).bind fun x40=>(FZ a0.Word).bind fun x44=>some ((⟨x44,x40.1⟩:A0),0)) (Sum.elim (fun(p9:Unit)=>(Hz a0).bind fun x47=>(FZ a0.Word).bind fun x51=>some ((⟨x51,x47.1⟩:A0),0)) (Sum.elim (fun(p10:Unit)=>(Gj a0).bind fun x54=>(FZ a0.Word).bind fun x58=>some ((⟨x58,x54.1⟩:A0),0)) (Sum.elim (fun(p11:(UInt64×UInt64))=>((Dt a0.N).bind fun x63=>let x66:=decide ((p11.2.toNat:Int)≤(a0.N.toNat:Int));(De x66 (let x69:=decide ((a0.N.toNat:Int)≤(p11.1.toNat:Int));some x69)).bind fun x70=>some (x63,x70)).bind (fun(p61:(AR×Bool))=>(FZ a0.Word).bind fun x74=>some ((⟨x74,p61.1⟩:A0),0))) (fun(p12:Unit)=>(Nm a0).bind fun x77=>(FZ a0.Word).bind fun x81=>some ((⟨x81,x77.1⟩:A0),0))))))
noncomputable def Va(a:Ce [Ae]):BS tb Kx [Ae] [Au,(T.int .i64)] a:=Ad<|Al (Bt (t:=Ae) 1 rfl rfl (Af rfl)) fun _=>Al (Cn (t:=Au) 2 rfl rfl) fun x1=>Aj (A3 AY)<|Ai<|Ad<|Ap (A1 (t:=Ae) (u:=Ae) (Af rfl) rfl rfl (Ay _) rfl rfl) fun x2=>Aa.op (AF UW (.one (Af rfl))) fun x3=>Ag (EJ (Af rfl)) fun x4=>Ac<|Aa.cond (Af rfl) (Ad<|Ag (D4 rfl rfl (.nil _)) fun x5=>Al (Dg (Af rfl) (Af rfl) rfl rfl (Ay _) rfl) fun x6=>Aj (A3 AY)<|Ac<|Aa.ret (.cons (Hk rfl rfl rfl (Ay _) rfl rfl)<| .one (AE rfl))) (Aa.skip<|Ai<|Aa.regd 2<|A6 rfl (AB (Af rfl))<|DZ rfl (A1 (t:=Ae) (u:=(T.int .i64)) (Af rfl) rfl rfl A7 rfl rfl) fun x7=>pN (τ:=(Unit⊕(Unit⊕(Unit⊕((UInt64×UInt64)⊕Unit))))) (φs:=[.val (T.int .i64) x7]) (n:=1) (L:=[(1, .cp 1 0),(2, .cp 2 0)]) (Γr:=(Sum.elim (fun p8=>⟨[Px],[(1, .cells [(70, .val Ae a)]),(2, .cells [(2, .val Au x1)]),DD,F0,fL,fJ,fI]⟩) (Sum.elim (fun p9=>⟨[Px],[(1, .cells [(70, .val Ae a)]),(2, .cells [(2, .val Au x1)]),DD,F0,T8,T7,T6]⟩) (Sum.elim (fun p10=>⟨[Px],[(1, .cells [(70, .val Ae a)]),(2, .cells [(2, .val Au x1)]),DD,F0,T5,T4,T3]⟩) (Sum.elim (fun p11=>⟨[NO],[(1, .cells [(70, .val Ae a)]),(2, .cells [(2, .val Au x1)]),(3, .cells [(1, .val T.u64 p11.1)]),(2002, .cells [(1, .val T.u64 p11.2)]),DD,F0,FI,NN,NM,FH,FG,FF,FE]⟩) (fun p12=>⟨[Px],[(1, .cells [(70, .val Ae a)]),(2, .cells [(2, .val Au x1)]),DD,F0,T1,T0,Tz]⟩)))))) rfl (.new (c:=⟨true,70,1,0,0,Ae,(Ay _).get a⟩) rfl (MD (Ay _) rfl rfl rfl rfl rfl)<| .nil) 2000000 (Sum.elim (fun p8=>⟨[lS,(1, .cp 1 0),(2, .cp 2 0)],[(1, .cells [(70, .val Ae a)]),(2, .cells [(2, .val Au x1)]),fL,fJ,fI]⟩) (Sum.elim (fun p9=>⟨[lS,(1, .cp 1 0),(2, .cp 2 0)],[(1, .cells [(70, .val Ae a)]),(2, .cells [(2, .val Au x1)]),T8,T7,T6]⟩) (Sum.elim (fun p10=>⟨[lS,(1, .cp 1 0),(2, .cp 2 0)],[(1, .cells [(70, .val Ae a)]),(2, .cells [(2, .val Au x1)]),T5,T4,T3]⟩) (Sum.elim (fun p11=>⟨[(13, .aggk [3600280,3600281,3600282]),(1, .cp 1 0),(2, .cp 2 0)],[(1, .cells [(70, .val Ae a)]),(2, .cells [(2, .val Au x1)]),(3, .cells [(1, .val T.u64 p11.1)]),(2002, .cells [(1, .val T.u64 p11.2)]),FI,NN,NM,FH,FG,FF,FE]⟩) (fun p12=>⟨[lS,(1, .cp 1 0),(2, .cp 2 0)],[(1, .cells [(70, .val Ae a)]),(2, .cells [(2, .val Au x1)]),T1,T0,Tz]⟩))))) (fun _=> .nil) NK rfl rfl rfl (Fg rfl) (.cons (MP (Af rfl))<| .nil) sB rfl (
 Ad<|Al (Cj 1002 _ JJ rfl rfl) fun _=>Ai<|Ad<|Ab rfl<|Ac<|AD<|Ad<|Ad<|Ag (A9 rfl (Af rfl) AY) fun x13=>Ab rfl<|Ac<|H4 (τ:=Bool) (fun p14=>⟨[(2, .cp 1002 0),(3, .val (T.int .i64) x7),(4, .val T.b p14)],[(1, .cells [(70, .val Ae a)]),(2, .cells [(2, .val Au x1)]),H3,DD,F0]⟩) (fun p14=>Ac<|Aa.cond (Af rfl) (Ad<|Aa.inl (τ:=Unit) (φs:=[]) (n:=1) (L:=[(2, .cp 1002 0)]) (Γr:=(fun p16=>⟨[Px],[(1, .cells [(70, .val Ae a)]),(2, .cells [(2, .val Au x1)]),H3,DD,F0,Ry,fL,fJ,fI]⟩)) 2100000 (fun p16=>⟨[(8, .aggk [3600040,3600041,3600042]),(2, .cp 1002 0)],[(1, .cells [(70, .val Ae a)]),(2, .cells [(2, .val Au x1)]),H3,DD,F0,fL,fJ,fI]⟩) PF rfl rfl rfl (Fg rfl) (.nil) sB rfl (Ad<|Al (Cj 0 _ JJ rfl rfl) fun _=>Ai<|BA (Gz (φs:=[.fnv (.func GX) [] [], .fnv (.func C7) [] [], .fnv (.func C6) [] []]) 3600040 (.cons GM<| .cons GM<| .cons GM<| .nil) rfl rfl sB (js:=[3600040,3600041,3600042]) rfl)<|Al (Df (Af rfl) (Af rfl) rfl rfl rfl rfl) fun _=>Ac<|Bg () (.cons (DA rfl rfl rfl rfl)<| .nil) sB) (fun p16=>AW sB rfl (.one rfl) sB sB) (.one fun p16=>Al (Df (Af rfl) (Af rfl) rfl rfl rfl rfl) fun _=>Ac<|Bg (.inl (())) (.cons (DA rfl rfl rfl rfl)<| .nil) sB)) (Ad<|Ag (A9 rfl (Af rfl) AY) fun x17=>Ab rfl<|Ac<|Aa.cond (Af rfl) (Ad<|Aa.inl (τ:=Unit) (φs:=[]) (n:=1) (L:=[(2, .cp 1002 0)]) (Γr:=(fun p18=>⟨[Px],[(1, .cells [(70, .val Ae a)]),(2, .cells [(2, .val Au x1)]),H3,DD,F0,Ry,T8,T7,T6]⟩)) 2100000 (fun p18=>⟨[(11, .aggk [3600040,3600041,3600042]),(2, .cp 1002 0)],[(1, .cells [(70, .val Ae a)]),(2, .cells [(2, .val Au x1)]),H3,DD,F0,T8,T7,T6]⟩) PG rfl rfl rfl (Fg rfl) (.nil) sB rfl (
 Ad<|Al (Cj 0 _ JJ rfl rfl) fun _=>Ai<|BA (Gz (φs:=[.fnv (.func GY) [] [], .fnv (.func C9) [] [], .fnv (.func C8) [] []]) 3600040 (.cons GM<| .cons GM<| .cons GM<| .nil) rfl rfl sB (js:=[3600040,3600041,3600042]) rfl)<|Al (Df (Af rfl) (Af rfl) rfl rfl rfl rfl) fun _=>Ac<|Bg () (.cons (DA rfl rfl rfl rfl)<| .nil) sB) (fun p18=>AW sB rfl (.one rfl) sB sB) (.one fun p18=>Al (Df (Af rfl) (Af rfl) rfl rfl rfl rfl) fun _=>Ac<|Bg (.inr (.inl (()))) (.cons (DA rfl rfl rfl rfl)<| .nil) sB)) (Ad<|Ag (A9 rfl (Af rfl) AY) fun x19=>Ab rfl<|Ac<|Aa.cond (Af rfl) (Ad<|Aa.inl (τ:=Unit) (φs:=[]) (n:=1) (L:=[(2, .cp 1002 0)]) (Γr:=(fun p20=>⟨[Px],[(1, .cells [(70, .val Ae a)]),(2, .cells [(2, .val Au x1)]),H3,DD,F0,Ry,T5,T4,T3]⟩)) 2100000 (fun p20=>⟨[(14, .aggk [3600040,3600041,3600042]),(2, .cp 1002 0)],[(1, .cells [(70, .val Ae a)]),(2, .cells [(2, .val Au x1)]),H3,DD,F0,T5,T4,T3]⟩) NL rfl rfl rfl (Fg rfl) (.nil) sB rfl (Ad<|Al (Cj 0 _ JJ rfl rfl) fun _=>Ai<|BA (Gz (φs:=[.fnv (.func FX) [] [], .fnv (.func Cg) [] [], .fnv (.func Cf) [] []]) 3600040 (.cons GM<| .cons GM<| .cons GM<| .nil) rfl rfl sB (js:=[3600040,3600041,3600042]) rfl)<|Al (Df (Af rfl) (Af rfl) rfl rfl rfl rfl) fun _=>Ac<|Bg () (.cons (DA rfl rfl rfl rfl)<| .nil) sB) (fun p20=>AW sB rfl (.one rfl) sB sB) (.one fun p20=>Al (Df (Af rfl) (Af rfl) rfl rfl rfl rfl) fun _=>Ac<|Bg (.inr (.inr (.inl (())))) (.cons (DA rfl rfl rfl rfl)<| .nil) sB)) (Ad<|Ad<|Ag (A9 rfl (Af rfl) AY) fun x21=>Ab rfl<|Ac<|H4 (τ:=Bool) (fun p22=>⟨[(2, .cp 1002 0),(3, .val (T.int .i64) x7),(15, .val T.b p22)],[(1, .cells [(70, .val Ae a)]),(2, .cells [(2, .val Au x1)]),H3,DD,F0]⟩) (fun p22=>
 Ac<|Aa.cond (Af rfl) (Ad<|Aa.inl (τ:=Unit) (φs:=[.val T.u64 (0:UInt64), .val T.u64 (65535:UInt64)]) (n:=1) (L:=[(2, .cp 1002 0)]) (Γr:=(fun p24=>⟨[NO],[(1, .cells [(70, .val Ae a)]),(2, .cells [(2, .val Au x1)]),lY,H3,Ty,DD,F0,Ry,FI,NN,NM,FH,FG,FF,FE]⟩)) 2100000 (fun p24=>⟨[(18, .aggk [3600280,3600281,3600282]),(2, .cp 1002 0)],[(1, .cells [(70, .val Ae a)]),(2, .cells [(2, .val Au x1)]),lY,H3,Ty,DD,F0,FI,NN,NM,FH,FG,FF,FE]⟩) C2 rfl rfl rfl (Fg rfl) (.cons (MP (Dz 0 rfl))<| .cons (MP (Dz 65535 rfl))<| .nil) sB rfl (Ad<|Al (Bt (t:=T.u64) 2002 rfl rfl (Af rfl)) fun _=>Al (Bt (t:=T.u64) 3 rfl rfl (Af rfl)) fun _=>Al (Cj 4 _ JJ rfl rfl) fun _=>Ai<|BA (Ij (φs:=[]) (ψs:=[.cp 3 0, .cp 2002 0]) 3600200 (.nil) (.cons (Af rfl)<| .cons (Af rfl)<| .nil) rfl sB (js:=[]) (ks:=[3600200,3600201]) rfl rfl)<|BA (Ij (φs:=[]) (ψs:=[.cp 2002 0, .cp 3 0]) 3600240 (.nil) (.cons (Af rfl)<| .cons (Af rfl)<| .nil) rfl sB (js:=[]) (ks:=[3600240,3600241]) rfl rfl)<|BA (Gz (φs:=[.fnv (.func B1) [] [3600200,3600201], .fnv (.func Bj) [] [3600240,3600241], .fnv (.func Bd) [] []]) 3600280 (.cons (Af rfl)<| .cons (Af rfl)<| .cons GM<| .nil) rfl rfl sB (js:=[3600280,3600281,3600282]) rfl)<|Al (Df (Af rfl) (Af rfl) rfl rfl rfl rfl) fun _=>Ac<|Bg () (.cons (DA rfl rfl rfl rfl)<| .nil) sB) (fun p24=>AW sB rfl (.one rfl) sB sB) (.one fun p24=>Al (Df (Af rfl) (Af rfl) rfl rfl rfl rfl) fun _=>Ac<|Bg (.inr (.inr (.inr (.inl (((65535:UInt64),(0:UInt64))))))) (.cons (DA rfl rfl rfl rfl)<| .nil) sB)) (Ad<|Ag (A9 rfl (Af rfl) AY) fun x25=>
 Ab rfl<|Ac<|Aa.cond (Af rfl) (Ad<|Aa.inl (τ:=Unit) (φs:=[.val T.u64 (0:UInt64), .val T.u64 (4294967295:UInt64)]) (n:=1) (L:=[(2, .cp 1002 0)]) (Γr:=(fun p26=>⟨[NO],[(1, .cells [(70, .val Ae a)]),(2, .cells [(2, .val Au x1)]),lX,H3,Ty,DD,F0,Ry,FI,NN,NM,FH,FG,FF,FE]⟩)) 2100000 (fun p26=>⟨[(21, .aggk [3600280,3600281,3600282]),(2, .cp 1002 0)],[(1, .cells [(70, .val Ae a)]),(2, .cells [(2, .val Au x1)]),lX,H3,Ty,DD,F0,FI,NN,NM,FH,FG,FF,FE]⟩) C2 rfl rfl rfl (Fg rfl) (.cons (MP (Dz 0 rfl))<| .cons (MP (Dz 4294967295 rfl))<| .nil) sB rfl (Ad<|Al (Bt (t:=T.u64) 2002 rfl rfl (Af rfl)) fun _=>Al (Bt (t:=T.u64) 3 rfl rfl (Af rfl)) fun _=>Al (Cj 4 _ JJ rfl rfl) fun _=>Ai<|BA (Ij (φs:=[]) (ψs:=[.cp 3 0, .cp 2002 0]) 3600200 (.nil) (.cons (Af rfl)<| .cons (Af rfl)<| .nil) rfl sB (js:=[]) (ks:=[3600200,3600201]) rfl rfl)<|BA (Ij (φs:=[]) (ψs:=[.cp 2002 0, .cp 3 0]) 3600240 (.nil) (.cons (Af rfl)<| .cons (Af rfl)<| .nil) rfl sB (js:=[]) (ks:=[3600240,3600241]) rfl rfl)<|BA (Gz (φs:=[.fnv (.func B1) [] [3600200,3600201], .fnv (.func Bj) [] [3600240,3600241], .fnv (.func Bd) [] []]) 3600280 (.cons (Af rfl)<| .cons (Af rfl)<| .cons GM<| .nil) rfl rfl sB (js:=[3600280,3600281,3600282]) rfl)<|Al (Df (Af rfl) (Af rfl) rfl rfl rfl rfl) fun _=>Ac<|Bg () (.cons (DA rfl rfl rfl rfl)<| .nil) sB) (fun p26=>AW sB rfl (.one rfl) sB sB) (.one fun p26=>Al (Df (Af rfl) (Af rfl) rfl rfl rfl rfl) fun _=>Ac<|Bg (.inr (.inr (.inr (.inl (((4294967295:UInt64),(0:UInt64))))))) (.cons (DA rfl rfl rfl rfl)<| .nil) sB)) (
 Ad<|Ag (A9 rfl (Af rfl) AY) fun x27=>Ab rfl<|Ac<|Aa.cond (Af rfl) (Ad<|Aa.inl (τ:=Unit) (φs:=[.val T.u64 (1:UInt64), .val T.u64 (1:UInt64)]) (n:=1) (L:=[(2, .cp 1002 0)]) (Γr:=(fun p28=>⟨[NO],[(1, .cells [(70, .val Ae a)]),(2, .cells [(2, .val Au x1)]),lW,H3,en_51,DD,F0,Ry,FI,NN,NM,FH,FG,FF,FE]⟩)) 2100000 (fun p28=>⟨[(24, .aggk [3600280,3600281,3600282]),(2, .cp 1002 0)],[(1, .cells [(70, .val Ae a)]),(2, .cells [(2, .val Au x1)]),lW,H3,en_51,DD,F0,FI,NN,NM,FH,FG,FF,FE]⟩) C2 rfl rfl rfl (Fg rfl) (.cons (MP (Dz 1 rfl))<| .cons (MP (Dz 1 rfl))<| .nil) sB rfl (Ad<|Al (Bt (t:=T.u64) 2002 rfl rfl (Af rfl)) fun _=>Al (Bt (t:=T.u64) 3 rfl rfl (Af rfl)) fun _=>Al (Cj 4 _ JJ rfl rfl) fun _=>Ai<|BA (Ij (φs:=[]) (ψs:=[.cp 3 0, .cp 2002 0]) 3600200 (.nil) (.cons (Af rfl)<| .cons (Af rfl)<| .nil) rfl sB (js:=[]) (ks:=[3600200,3600201]) rfl rfl)<|BA (Ij (φs:=[]) (ψs:=[.cp 2002 0, .cp 3 0]) 3600240 (.nil) (.cons (Af rfl)<| .cons (Af rfl)<| .nil) rfl sB (js:=[]) (ks:=[3600240,3600241]) rfl rfl)<|BA (Gz (φs:=[.fnv (.func B1) [] [3600200,3600201], .fnv (.func Bj) [] [3600240,3600241], .fnv (.func Bd) [] []]) 3600280 (.cons (Af rfl)<| .cons (Af rfl)<| .cons GM<| .nil) rfl rfl sB (js:=[3600280,3600281,3600282]) rfl)<|Al (Df (Af rfl) (Af rfl) rfl rfl rfl rfl) fun _=>Ac<|Bg () (.cons (DA rfl rfl rfl rfl)<| .nil) sB) (fun p28=>AW sB rfl (.one rfl) sB sB) (.one fun p28=>Al (Df (Af rfl) (Af rfl) rfl rfl rfl rfl) fun _=>Ac<|Bg (.inr (.inr (.inr (.inl (((1:UInt64),(1:UInt64))))))) (.cons (DA rfl rfl rfl rfl)<| .nil) sB)) (
 Ad<|Ad<|Ag (A9 rfl (Af rfl) AY) fun x29=>Ab rfl<|Ac<|H4 (τ:=Bool) (fun p30=>⟨[(2, .cp 1002 0),(3, .val (T.int .i64) x7),(25, .val T.b p30)],[(1, .cells [(70, .val Ae a)]),(2, .cells [(2, .val Au x1)]),H3,DD,F0]⟩) (fun p30=>Ac<|Aa.cond (Af rfl) (Ad<|Aa.inl (τ:=Unit) (φs:=[.val T.u64 (0:UInt64), .val T.u64 (18446744073709551615:UInt64)]) (n:=1) (L:=[(2, .cp 1002 0)]) (Γr:=(fun p32=>⟨[NO],[(1, .cells [(70, .val Ae a)]),(2, .cells [(2, .val Au x1)]),lV,H3,Ty,DD,F0,Ry,FI,NN,NM,FH,FG,FF,FE]⟩)) 2100000 (fun p32=>⟨[(28, .aggk [3600280,3600281,3600282]),(2, .cp 1002 0)],[(1, .cells [(70, .val Ae a)]),(2, .cells [(2, .val Au x1)]),lV,H3,Ty,DD,F0,FI,NN,NM,FH,FG,FF,FE]⟩) C2 rfl rfl rfl (Fg rfl) (.cons (MP (Dz 0 rfl))<| .cons (MP (Dz 18446744073709551615 rfl))<| .nil) sB rfl (Ad<|Al (Bt (t:=T.u64) 2002 rfl rfl (Af rfl)) fun _=>Al (Bt (t:=T.u64) 3 rfl rfl (Af rfl)) fun _=>Al (Cj 4 _ JJ rfl rfl) fun _=>Ai<|BA (Ij (φs:=[]) (ψs:=[.cp 3 0, .cp 2002 0]) 3600200 (.nil) (.cons (Af rfl)<| .cons (Af rfl)<| .nil) rfl sB (js:=[]) (ks:=[3600200,3600201]) rfl rfl)<|BA (Ij (φs:=[]) (ψs:=[.cp 2002 0, .cp 3 0]) 3600240 (.nil) (.cons (Af rfl)<| .cons (Af rfl)<| .nil) rfl sB (js:=[]) (ks:=[3600240,3600241]) rfl rfl)<|BA (Gz (φs:=[.fnv (.func B1) [] [3600200,3600201], .fnv (.func Bj) [] [3600240,3600241], .fnv (.func Bd) [] []]) 3600280 (.cons (Af rfl)<| .cons (Af rfl)<| .cons GM<| .nil) rfl rfl sB (js:=[3600280,3600281,3600282]) rfl)<|Al (Df (Af rfl) (Af rfl) rfl rfl rfl rfl) fun _=>Ac<|Bg () (.cons (DA rfl rfl rfl rfl)<| .nil) sB) (fun p32=>AW sB rfl (.one rfl) sB sB) (.one fun p32=>
 Al (Df (Af rfl) (Af rfl) rfl rfl rfl rfl) fun _=>Ac<|Bg (.inr (.inr (.inr (.inl (((18446744073709551615:UInt64),(0:UInt64))))))) (.cons (DA rfl rfl rfl rfl)<| .nil) sB)) (Ad<|Ag (A9 rfl (Af rfl) AY) fun x33=>Ab rfl<|Ac<|Aa.cond (Af rfl) (Ad<|Aa.inl (τ:=Unit) (φs:=[.val T.u64 (0:UInt64), .val T.u64 (20:UInt64)]) (n:=1) (L:=[(2, .cp 1002 0)]) (Γr:=(fun p34=>⟨[NO],[(1, .cells [(70, .val Ae a)]),(2, .cells [(2, .val Au x1)]),lU,H3,Ty,DD,F0,Ry,FI,NN,NM,FH,FG,FF,FE]⟩)) 2100000 (fun p34=>⟨[(31, .aggk [3600280,3600281,3600282]),(2, .cp 1002 0)],[(1, .cells [(70, .val Ae a)]),(2, .cells [(2, .val Au x1)]),lU,H3,Ty,DD,F0,FI,NN,NM,FH,FG,FF,FE]⟩) C2 rfl rfl rfl (Fg rfl) (.cons (MP (Dz 0 rfl))<| .cons (MP (Dz 20 rfl))<| .nil) sB rfl (Ad<|Al (Bt (t:=T.u64) 2002 rfl rfl (Af rfl)) fun _=>Al (Bt (t:=T.u64) 3 rfl rfl (Af rfl)) fun _=>Al (Cj 4 _ JJ rfl rfl) fun _=>Ai<|BA (Ij (φs:=[]) (ψs:=[.cp 3 0, .cp 2002 0]) 3600200 (.nil) (.cons (Af rfl)<| .cons (Af rfl)<| .nil) rfl sB (js:=[]) (ks:=[3600200,3600201]) rfl rfl)<|BA (Ij (φs:=[]) (ψs:=[.cp 2002 0, .cp 3 0]) 3600240 (.nil) (.cons (Af rfl)<| .cons (Af rfl)<| .nil) rfl sB (js:=[]) (ks:=[3600240,3600241]) rfl rfl)<|BA (Gz (φs:=[.fnv (.func B1) [] [3600200,3600201], .fnv (.func Bj) [] [3600240,3600241], .fnv (.func Bd) [] []]) 3600280 (.cons (Af rfl)<| .cons (Af rfl)<| .cons GM<| .nil) rfl rfl sB (js:=[3600280,3600281,3600282]) rfl)<|Al (Df (Af rfl) (Af rfl) rfl rfl rfl rfl) fun _=>Ac<|Bg () (.cons (DA rfl rfl rfl rfl)<| .nil) sB) (fun p34=>AW sB rfl (.one rfl) sB sB) (.one fun p34=>
 Al (Df (Af rfl) (Af rfl) rfl rfl rfl rfl) fun _=>Ac<|Bg (.inr (.inr (.inr (.inl (((20:UInt64),(0:UInt64))))))) (.cons (DA rfl rfl rfl rfl)<| .nil) sB)) (Aa.skip<|AN<|Ai<|Aa.inl (τ:=Unit) (φs:=[]) (n:=1) (L:=[(2, .cp 1002 0)]) (Γr:=(fun p35=>⟨[Px],[(1, .cells [(70, .val Ae a)]),(2, .cells [(2, .val Au x1)]),H3,DD,F0,Ry,T1,T0,Tz]⟩)) 2100000 (fun p35=>⟨[(32, .aggk [3600040,3600041,3600042]),(2, .cp 1002 0)],[(1, .cells [(70, .val Ae a)]),(2, .cells [(2, .val Au x1)]),H3,DD,F0,T1,T0,Tz]⟩) Rt rfl rfl rfl (Fg rfl) (.nil) sB rfl (Ad<|Al (Cj 0 _ JJ rfl rfl) fun _=>Ai<|BA (Gz (φs:=[.fnv (.func H8) [] [], .fnv (.func CU) [] [], .fnv (.func CT) [] []]) 3600040 (.cons GM<| .cons GM<| .cons GM<| .nil) rfl rfl sB (js:=[3600040,3600041,3600042]) rfl)<|Al (Df (Af rfl) (Af rfl) rfl rfl rfl rfl) fun _=>Ac<|Bg () (.cons (DA rfl rfl rfl rfl)<| .nil) sB) (fun p35=>AW sB rfl (.one rfl) sB sB) (.one fun p35=>Al (Df (Af rfl) (Af rfl) rfl rfl rfl rfl) fun _=>Ac<|Bg (.inr (.inr (.inr (.inr (()))))) (.cons (DA rfl rfl rfl rfl)<| .nil) sB)))) fun k31=>Aa.cond (Af rfl) (Aa.skip<|Aa.weak (k31 x29) sB) (Ag (A9 rfl (Af rfl) AY) fun x36=>Ab rfl<|Aa.weak (k31 x36) sB))))) fun k23=>Aa.cond (Af rfl) (Aa.skip<|Aa.weak (k23 x21) sB) (Ag (A9 rfl (Af rfl) AY) fun x37=>Ab rfl<|Aa.weak (k23 x37) sB))))) fun k15=>Aa.cond (Af rfl) (Aa.skip<|Aa.weak (k15 x13) sB) (Ad<|Ag (A9 rfl (Af rfl) AY) fun x38=>Ab rfl<|Ac<|Aa.cond (Af rfl) (Aa.skip<|Aa.weak (k15 x38) sB) (Ag (A9 rfl (Af rfl) AY) fun x39=>Ab rfl<|Aa.weak (k15 x39) sB))) (LH (fun p8=>AW sB rfl (.one rfl) sB sB) (LH (fun p9=>AW sB rfl (.one rfl) sB sB) (LH (fun p10=>AW sB rfl (.one rfl) sB sB) (LH (fun p11=>AW sB rfl (.one rfl) sB sB) (fun p12=>AW sB rfl (.one rfl) sB sB))))) (.alt (.one fun p8=>
 A6 rfl (VP (l:=[3600040]) (r:=[3600042]) (Af rfl) rfl rfl rfl rfl)<|Fh 0 rfl rfl rfl rfl rfl (BM (AP Ck (AP (D9 HK) (AP Qz (AP (BM (AP (BM (AP Ck (D9 HK))) Ck)) (BM (AP (BM (AP Ck (D9 HK))) Ck))))))) (A1 (t:=Ae) (u:=Ae) (Af rfl) rfl rfl (Ay _) rfl rfl)<|SimDW.op rfl (fun _=> .nil) (.nil) (J5 Mf (Gd (Qf rfl rfl) rfl) (.one (MP (Af rfl)))) fun x40=>A6 rfl (A3 (Af rfl))<|DZ rfl (Cp (Af rfl) rfl) fun x41=>DZ rfl (Cp (Af rfl) rfl) fun x42=>A6 rfl (A3 (Af rfl))<|A6 rfl (A3 (Af rfl))<|CO<|Ai<|Aj (AB (Af rfl))<|Ap (A1 (t:=Ae) (u:=(T.int .i64)) (Af rfl) rfl rfl A7 rfl rfl) fun x43=>Aa.op (AF Gn (.one (Af rfl))) fun x44=>Ab rfl<|Ag (D4 rfl rfl (.cons Cq rfl (Af rfl)<| .cons Cr rfl (Af rfl)<| .nil _)) fun x45=>Al (Dg (Af rfl) (Af rfl) rfl rfl (Ay _) rfl) fun x46=>Aj (A3 AY)<|Ac<|Aa.ret (.cons (Hk rfl rfl rfl (Ay _) rfl rfl)<| .one (AE rfl))) (.alt (.one fun p9=>A6 rfl (VP (l:=[3600040]) (r:=[3600042]) (Af rfl) rfl rfl rfl rfl)<|Fh 0 rfl rfl rfl rfl rfl (BM (AP Ck (AP (D9 HK) (AP Qz (AP (BM (AP (BM (AP Ck (D9 HK))) Ck)) (BM (AP (BM (AP Ck (D9 HK))) Ck))))))) (A1 (t:=Ae) (u:=Ae) (Af rfl) rfl rfl (Ay _) rfl rfl)<|SimDW.op rfl (fun _=> .nil) (.nil) (J5 Mg (Gd (Qf rfl rfl) rfl) (.one (MP (Af rfl)))) fun x47=>A6 rfl (A3 (Af rfl))<|DZ rfl (Cp (Af rfl) rfl) fun x48=>DZ rfl (Cp (Af rfl) rfl) fun x49=>A6 rfl (A3 (Af rfl))<|A6 rfl (A3 (Af rfl))<|CO<|Ai<|Aj (AB (Af rfl))<|Ap (A1 (t:=Ae) (u:=(T.int .i64)) (Af rfl) rfl rfl A7 rfl rfl) fun x50=>Aa.op (AF Gn (.one (Af rfl))) fun x51=>Ab rfl<|Ag (D4 rfl rfl (.cons Cq rfl (Af rfl)<| .cons Cr rfl (Af rfl)<| .nil _)) fun x52=>
 Al (Dg (Af rfl) (Af rfl) rfl rfl (Ay _) rfl) fun x53=>Aj (A3 AY)<|Ac<|Aa.ret (.cons (Hk rfl rfl rfl (Ay _) rfl rfl)<| .one (AE rfl))) (.alt (.one fun p10=>A6 rfl (VP (l:=[3600040]) (r:=[3600042]) (Af rfl) rfl rfl rfl rfl)<|Fh 0 rfl rfl rfl rfl rfl (BM (AP Ck (AP (D9 HK) (AP Qz (AP (BM (AP (BM (AP Ck (D9 HK))) Ck)) (BM (AP (BM (AP Ck (D9 HK))) Ck))))))) (A1 (t:=Ae) (u:=Ae) (Af rfl) rfl rfl (Ay _) rfl rfl)<|SimDW.op rfl (fun _=> .nil) (.nil) (J5 KJ (Gd (Qf rfl rfl) rfl) (.one (MP (Af rfl)))) fun x54=>A6 rfl (A3 (Af rfl))<|DZ rfl (Cp (Af rfl) rfl) fun x55=>DZ rfl (Cp (Af rfl) rfl) fun x56=>A6 rfl (A3 (Af rfl))<|A6 rfl (A3 (Af rfl))<|CO<|Ai<|Aj (AB (Af rfl))<|Ap (A1 (t:=Ae) (u:=(T.int .i64)) (Af rfl) rfl rfl A7 rfl rfl) fun x57=>Aa.op (AF Gn (.one (Af rfl))) fun x58=>Ab rfl<|Ag (D4 rfl rfl (.cons Cq rfl (Af rfl)<| .cons Cr rfl (Af rfl)<| .nil _)) fun x59=>Al (Dg (Af rfl) (Af rfl) rfl rfl (Ay _) rfl) fun x60=>Aj (A3 AY)<|Ac<|Aa.ret (.cons (Hk rfl rfl rfl (Ay _) rfl rfl)<| .one (AE rfl))) (.alt (.one fun p11=>A6 rfl (VP (l:=[3600280]) (r:=[3600282]) (Af rfl) rfl rfl rfl rfl)<|Fh 0 rfl rfl rfl rfl rfl (BM (AP Ck (AP (D9 HK) (AP Qz (AP (BM (AP (BM (AP Ck (D9 HK))) Ck)) (BM (AP (BM (AP Ck (D9 HK))) Ck))))))) (A1 (t:=Ae) (u:=Ae) (Af rfl) rfl rfl (Ay _) rfl rfl)<|A8.inl (τ:=(AR×Bool)) (φs:=[.val Ae ((Ay _).get a), .cp 2002 0, .cp 3 0]) (n:=2) (L:=[(1, .cp 1 0),(2, .cp 2 0)]) (Γr:=(fun p61=>⟨[(0, .val A5 p61.1),(1, .val T.b p61.2)],[(1, .cells [(70, .val Ae a)]),(2, .cells [(2, .val Au x1)]),DD,F0]⟩)) rfl (.nil) 2000000 (fun p61=>⟨[(16, .tup [⟨A5,p61.1⟩,⟨T.b,p61.2⟩]),(1, .cp 1 0),(2, .cp 2 0)],[(1, .cells [(70, .val Ae a)]),(2, .cells [(2, .val Au x1)])]⟩) (fun _=> .nil) Lu rfl rfl rfl (Gd (Qf rfl rfl) rfl) (.cons (MP (Af rfl))<| .cons (s_k rfl)<| .cons (s_k rfl)<| .nil) sB rfl (
 Ad<|Al (Bt (t:=Ae) 1003 rfl rfl (Af rfl)) fun _=>Aj (A3 Gy)<|Aj (A3 G8)<|Ai<|Aj (AB (Af rfl))<|Ap (A1 (t:=Ae) (u:=T.u64) (Af rfl) rfl rfl BY rfl rfl) fun x62=>Aa.op (AF Gg (.one (Af rfl))) fun x63=>Aj (AB (Af rfl))<|Ap (A1 (t:=Ae) (u:=T.u64) (Af rfl) rfl rfl BY rfl rfl) fun x64=>Ap (A1 (t:=T.u64) (u:=T.u64) (Af rfl) rfl rfl (Ay _) rfl rfl) fun x65=>Ag (Ey (I:=IT.u64) rfl (Af rfl) (Af rfl)) fun x66=>Ab rfl<|Aa.and 4 rfl rfl rfl (AU (AB (Af rfl))<|Bk (A1 (t:=Ae) (u:=T.u64) (Af rfl) rfl rfl BY rfl rfl) fun x67=>Bk (A1 (t:=T.u64) (u:=T.u64) (Af rfl) rfl rfl (Ay _) rfl rfl) fun x68=>Bf (Ey (I:=IT.u64) rfl (Af rfl) (Af rfl)) fun x69=>Bl.nil (Af rfl)) fun x70=>Ab rfl<|Ab rfl<|Ac<|Bg (x63,x70) (.cons (yC rfl)<| .cons (yC rfl)<| .nil) sB) (fun p61=>AW sB rfl (.vals rfl (by intro i p h;match i,h with|0,h=>(cases h;rfl)|1,h=>(cases h;rfl)|(_+2),h=>simp at h)) trivial sB) fun p61=>A6 rfl (A3 (Af rfl))<|DZ rfl (Cp (Af rfl) rfl) fun x71=>DZ rfl (Cp (Af rfl) rfl) fun x72=>A6 rfl (A3 (Af rfl))<|A6 rfl (A3 (Af rfl))<|CO<|Ai<|Aj (AB (Af rfl))<|Ap (A1 (t:=Ae) (u:=(T.int .i64)) (Af rfl) rfl rfl A7 rfl rfl) fun x73=>Aa.op (AF Gn (.one (Af rfl))) fun x74=>Ab rfl<|Ag (D4 rfl rfl (.cons Cq rfl (Af rfl)<| .cons Cr rfl (Af rfl)<| .nil _)) fun x75=>Al (Dg (Af rfl) (Af rfl) rfl rfl (Ay _) rfl) fun x76=>Aj (A3 AY)<|Ac<|Aa.ret (.cons (Hk rfl rfl rfl (Ay _) rfl rfl)<| .one (AE rfl))) (.one fun p12=>A6 rfl (VP (l:=[3600040]) (r:=[3600042]) (Af rfl) rfl rfl rfl rfl)<|Fh 0 rfl rfl rfl rfl rfl (BM (AP Ck (AP (D9 HK) (AP Qz (AP (BM (AP (BM (AP Ck (D9 HK))) Ck)) (BM (AP (BM (AP Ck (D9 HK))) Ck))))))) (A1 (t:=Ae) (u:=Ae) (Af rfl) rfl rfl (Ay _) rfl rfl)<|
 SimDW.op rfl (fun _=> .nil) (.nil) (J5 NE (Gd (Qf rfl rfl) rfl) (.one (MP (Af rfl)))) fun x77=>A6 rfl (A3 (Af rfl))<|DZ rfl (Cp (Af rfl) rfl) fun x78=>DZ rfl (Cp (Af rfl) rfl) fun x79=>A6 rfl (A3 (Af rfl))<|A6 rfl (A3 (Af rfl))<|CO<|Ai<|Aj (AB (Af rfl))<|Ap (A1 (t:=Ae) (u:=(T.int .i64)) (Af rfl) rfl rfl A7 rfl rfl) fun x80=>Aa.op (AF Gn (.one (Af rfl))) fun x81=>Ab rfl<|Ag (D4 rfl rfl (.cons Cq rfl (Af rfl)<| .cons Cr rfl (Af rfl)<| .nil _)) fun x82=>Al (Dg (Af rfl) (Af rfl) rfl rfl (Ay _) rfl) fun x83=>Aj (A3 AY)<|Ac<|Aa.ret (.cons (Hk rfl rfl rfl (Ay _) rfl rfl)<| .one (AE rfl))))))))
theorem WR:Spec tb Gs [Ae] [Au,(T.int .i64)] (fun a=>Fd a):=
 Spec.of ZS rfl rfl rfl Va
end Go.Proofs.YtobejhpigbllpaaGreatDoor.Am
end
section
set_option linter.unusedVariables false
set_option maxRecDepth 100000
set_option maxHeartbeats 4000000
namespace Go.Proofs.YtobejhpigbllpaaGreatDoor.Am
noncomputable def FS(a0:(GS An)):Option (GS A0):=(iter (fun(s2:(Int×(GS A0)))=>if(decide (s2.1<(a0.l.length:Int)))=true then (ES a0.l s2.1).bind fun x5=>(Fd x5).bind fun x10=>(W7 32 s2.2 [x10.1]).bind fun x17=>some (.inl (IntKind.i64.wrap (s2.1+1),x17)) else some (.inr (.inl s2.2))) (0, .nil)).bind (Sum.elim (fun(p3:(GS A0))=>some p3) some)
noncomputable def Sd(a:Ce [(T.sl Ae)]):BS tb Iz [(T.sl Ae)] [(T.sl Au)] a:=Ad<|Aj (A3 (MV (t:=Au)))<|Aa.turn (born (n:=2) (j:=1002) rfl rfl)<|Ai<|Aj (A3 (MV (t:=Au)))<|Aa.turn (born (n:=3) (j:=2002) rfl rfl)<|Ai<|Ad<|Ab rfl<|Ag (DL (Af rfl)) fun x1=>Aj (A3 AY)<|Ac<|AD<|Aa.loop (id:=0) (σ:=(Int×(GS A0))) (τ:=(GS A0)) (fun s2=>⟨[(3, .own 2002),(8, .val (T.sl Ae) a),(9, .val (T.int .i64) x1),(10, .val (T.int .i64) s2.1)],[(2002, .row Au s2.2)]⟩) (fun p3=>⟨[(3, .own 2002)],[(2002, .row Au p3)]⟩) (0, .nil) sB (fun _=>rfl) (fun s2=>Ad<|Ag (A9 rfl (Af rfl) (Af rfl)) fun x4=>Ai<|Aa.cond (Af rfl) (Aa.skip<|Ai<|AD<|Ad<|Aa.op (F7 rfl (Af rfl) (Af rfl)) fun x5=>Ap (Is rfl rfl (Af rfl)) fun x6=>Al (Cn (t:=Ae) 5 rfl rfl) fun x7=>Al (Dg (Af rfl) (Af rfl) rfl rfl (Ay _) rfl) fun x8=>Ai<|Ap (A1 (t:=Ae) (u:=Ae) (Af rfl) rfl rfl (Ay _) rfl rfl) fun x9=>Aa.op (Jg WR (.one (Af rfl))) fun x10=>Ab rfl<|Ap (Cp (Af rfl) rfl) fun x11=>Ap (Cp (Af rfl) rfl) fun x12=>Al (Cn (t:=Au) 6 rfl rfl) fun x13=>Al (Dg (Af rfl) (Af rfl) rfl rfl (Ay _) rfl) fun x14=>Ab rfl<|Ac<|Ab rfl<|Ap (A1 (t:=Au) (u:=Au) (Af rfl) rfl rfl (Ay _) rfl rfl) fun x15=>Ag (NH (t:=Au) (n:=1) rfl rfl (.cons rfl (Af rfl)<| .nil _)) fun x16=>Cm (NR rfl (Af rfl) rfl (TU (Af rfl))) fun x17=>Ab rfl<|AN<|Ac<|Ag (BJ (I:=(IT.int .i64)) (Af rfl) AY) fun x18=>Ab rfl<|Aa.next (x18,x17) sB) (Bh<|BD s2.2 sB)) (fun p3=>Bi<|Ai<|Ab rfl<|Ab rfl<|Ac<|Aa.frzRow 2002 rfl rfl<|Aa.ret (.one (AE rfl)))
theorem ND:Spec tb DX [(T.sl Ae)] [(T.sl Au)] (fun a=>FS a):=
 Spec.of Wb rfl rfl rfl Sd
noncomputable def Fs(a0:AR)(a1:UInt8):Option Int:=(EI a0 a1).bind fun x1=>some x1
noncomputable def HM(a:Ce [A5,T.u8]):BS tb Ct [A5,T.u8] [(T.int .i64)] a:=Ad<|Aj (A3 AY)<|Ai<|Ab rfl<|Ab rfl<|Aa.op (AF Hr (.cons (Af rfl)<| .one (Af rfl))) fun x1=>Ab rfl<|Ac<|Aa.ret (.one (AE rfl))
theorem Ik:Spec tb Bx [A5,T.u8] [(T.int .i64)] (fun a=>Fs a.1 a.2):=
 Spec.of Iu rfl rfl rfl HM
noncomputable def EG(a0:AR)(a1:UInt8):Option Int:=(Fs a0 a1).bind fun x1=>some x1
noncomputable def NV(a:Ce [A5,T.u8]):BS tb Fo [A5,T.u8] [(T.int .i64)] a:=Ad<|Aj (A3 AY)<|Ai<|Ab rfl<|Ab rfl<|Aa.op (AF Ik (.cons (Af rfl)<| .one (Af rfl))) fun x1=>Ab rfl<|Ac<|Aa.ret (.one (AE rfl))
theorem Jt:Spec tb Cz [A5,T.u8] [(T.int .i64)] (fun a=>EG a.1 a.2):=
 Spec.of Pw rfl rfl rfl NV
noncomputable def Eb(a0:Int):Option Bool:=(De (decide (0≤a0)) (some (decide (a0<55296)))).bind fun x3=>if x3=true then some true else (De (decide (57343<a0)) (some (decide (a0≤1114111)))).bind fun x6=>if x6=true then some true else some false
noncomputable def KK(a:Ce [(T.int .i32)]):BS tb DE [(T.int .i32)] [T.b] a:=Ad<|Aj (A3 G8)<|Ai<|AD<|Ad<|Ab rfl<|Ag (Ey (I:=(IT.int .i32)) rfl AY (Af rfl)) fun x1=>Ab rfl<|Aa.and 2 rfl rfl rfl (AU (A3 (Af rfl))<|Bf (Ey (I:=(IT.int .i32)) rfl (Af rfl) AY) fun x2=>Bl.nil (Af rfl)) fun x3=>Ab rfl<|Ac<|Aa.cond (Af rfl) (Ad<|Aj (A3 G8)<|Ac<|Aa.ret (.one (AE rfl))) (Ad<|Ab rfl<|Ag (Ey (I:=(IT.int .i32)) rfl AY (Af rfl)) fun x4=>Ab rfl<|Aa.and 2 rfl rfl rfl (AU (A3 (Af rfl))<|Bf (Ey (I:=(IT.int .i32)) rfl (Af rfl) AY) fun x5=>Bl.nil (Af rfl)) fun x6=>Ab rfl<|Ac<|Aa.cond (Af rfl) (Ad<|Aj (A3 G8)<|Ac<|Aa.ret (.one (AE rfl))) (Aa.skip<|AN<|Ai<|Aj (A3 G8)<|Ac<|Aa.ret (.one (AE rfl))))
theorem Lb:Spec tb Cc [(T.int .i32)] [T.b] (fun a=>Eb a):=
 Spec.of LT rfl rfl rfl KK
noncomputable def CG(a0:AR)(a1:Int):Option Int:=(De (decide (0≤a1)) (some (decide (a1<128)))).bind fun x3=>if x3=true then (EG a0 (IT.u8.ofI a1)).bind fun x5=>some x5 else if(decide (a1=65533))=true then (iter (fun(s7:Nat)=>if s7<a0.length then let x9:=Et a0 s7;if(decide (x9.1=65533))=true then (some ((s7:Nat):Int)).map fun r=> .inr (.inr r) else some (.inl (s7+x9.2)) else some (.inr (.inl ()))) 0).bind (Sum.elim (fun(p8:Unit)=>some (-1)) some) else (Eb a1).bind fun x13=>if(!x13)=true then some (-1) else let x17:=IntKind.i64.wrap ((((Utf8.encode a1).data.toList).length:Int)-1);(iter (fun(s18:Unit)=>if(decide (x17<(a0.length:Int)))=true then (ES a0 x17).bind fun x22=>(ES ((Utf8.encode a1).data.toList) x17).bind fun x23=>(fun(k26:Int→Option _)=>if(!decide ((x22.toNat:Int)=(x23.toNat:Int)))=true then (UQ a0 (some (IntKind.i64.wrap (x17+1))) none).bind fun x39=>(ES ((Utf8.encode a1).data.toList) x17).bind fun x40=>(EG x39 x40).bind fun x41=>if(decide (x41<0))=true then (some (-1)).map fun r=> .inr (.inr r) else let x44:=IntKind.i64.wrap (x17+IntKind.i64.wrap (x41+1));k26 x44 else k26 x17) fun p25=>(iter (fun(s27:Int)=>let x30:=decide (s27<(((Utf8.encode a1).data.toList).length:Int));if x30=true then (ES a0 (IntKind.i64.wrap (p25-s27))).bind fun x32=>(ES ((Utf8.encode a1).data.toList) (IntKind.i64.wrap (x17-s27))).bind fun x34=>if(!decide ((x32.toNat:Int)=(x34.toNat:Int)))=true then none else some (.inl (IntKind.i64.wrap (s27+1))) else some (.inr (.inl ()))) 1).bind (Sum.elim (fun(p28:Unit)=>
 (some (IntKind.i64.wrap (p25-x17))).map fun r=> .inr (.inr r)) some) else some (.inr (.inl ()))) ()).bind (Sum.elim (fun(p19:Unit)=>some (-1)) some)
noncomputable def NU(a:Ce [A5,(T.int .i32)]):BS tb Fm [A5,(T.int .i32)] [(T.int .i64)] a:=Ad<|Aj (A3 AY)<|Ac<|AD<|Ad<|Ab rfl<|Ag (Ey (I:=(IT.int .i32)) rfl AY (Af rfl)) fun x1=>Ab rfl<|Aa.and 2 rfl rfl rfl (AU (A3 (Af rfl))<|Bf (Ey (I:=(IT.int .i32)) rfl (Af rfl) AY) fun x2=>Bl.nil (Af rfl)) fun x3=>Ab rfl<|Ac<|Aa.cond (Af rfl) (Ad<|Ab rfl<|Ab rfl<|Ag (HZ (I:=(IT.int .i32)) (J:=IT.u8) rfl (Af rfl)) fun x4=>Aa.op (AF Jt (.cons (Af rfl)<| .one (Af rfl))) fun x5=>Ab rfl<|Ac<|Aa.ret (.one (AE rfl))) (Ad<|Ab rfl<|Ag (Ey (I:=(IT.int .i32)) rfl (Af rfl) AY) fun x6=>Ab rfl<|Ac<|Aa.cond (Af rfl) (Ad<|Ad<|Ab rfl<|Al (M_rng 1175 rfl (Af rfl)) fun _=>Ac<|AD<|Aa.loop (id:=9) (σ:=Nat) (τ:=Unit) (fun s7=>⟨[(175, .own 1175)],[(1175, .dom WL (a.1,s7))]⟩) (fun p8=>⟨[],[]⟩) 0 sB (fun _=>rfl) (fun s7=>Ad<|Aa.nxt (Af rfl) rfl (fun x9=>Aj (Cp (Af rfl) rfl)<|Ai<|YK (Af rfl)<|Aa.skip<|Ac<|AD<|Ad<|Ap (Cp (Af rfl) rfl) fun x10=>Ap (Cp (Af rfl) rfl) fun x11=>Ab rfl<|Ab rfl<|Ai<|Ab rfl<|Ag (Ey (I:=(IT.int .i32)) rfl (Af rfl) AY) fun x12=>Ac<|Aa.cond (Af rfl) (Ad<|Ab rfl<|Ab rfl<|Ac<|By<|Aa.ret (.one (AE rfl))) (Aa.skip<|AN<|Aa.next (s7+x9.2) sB)) (Aj (Cp (Af rfl) rfl)<|Ai<|YL (Af rfl)<|Bh<|BD () sB)) (fun p8=>Bi<|Ai<|Aj (A3 AY)<|Ac<|Aa.ret (.one (AE rfl)))) (Ad<|Ab rfl<|Aa.op (AF Lb (.one (Af rfl))) fun x13=>Ag (EJ (Af rfl)) fun x14=>Ab rfl<|Ac<|Aa.cond (Af rfl) (Ad<|Aj (A3 AY)<|Ac<|Aa.ret (.one (AE rfl))) (Aa.scope<|Ad<|Ab rfl<|Ag (h_cvc (Af rfl)) fun x15=>Ab rfl<|Ai<|Ab rfl<|Ag (Ir (Af rfl)) fun x16=>
 Ag (Ei (I:=(IT.int .i64)) (Af rfl) AY) fun x17=>Ab rfl<|Ai<|Ab rfl<|Ab rfl<|Ai<|Aj (A3 AY)<|Ai<|AD<|Aa.loop (id:=1) (σ:=Unit) (τ:=Unit) (fun s18=>⟨[(0, .val A5 a.1),(7, .val A5 x15),(8, .val (T.int .i64) x17),(9, .val (T.int .i64) x17)],[]⟩) (fun p19=>⟨[],[]⟩) () sB (fun _=>rfl) (fun s18=>Ad<|Ad<|Ab rfl<|Ab rfl<|Ag (Ir (Af rfl)) fun x20=>Ag (A9 rfl (Af rfl) (Af rfl)) fun x21=>Ac<|Aa.cond (Af rfl) (Aa.skip<|Ac<|AD<|Aa.scope<|Ad<|Ad<|Ab rfl<|Ab rfl<|Aa.op (Fu (Af rfl) (Af rfl)) fun x22=>Ab rfl<|Ab rfl<|Aa.op (Fu (Af rfl) (Af rfl)) fun x23=>Ag (Ey (I:=IT.u8) rfl (Af rfl) (Af rfl)) fun x24=>Ac<|H4 (τ:=Int) (fun p25=>⟨[(0, .val A5 a.1),(7, .val A5 x15),(8, .val (T.int .i64) x17),(9, .val (T.int .i64) p25)],[]⟩) (fun p25=>Ai<|Ad<|Aj (A3 AY)<|Ac<|AD<|Aa.loop (id:=3) (σ:=Int) (τ:=Unit) (fun s27=>⟨[(0, .val A5 a.1),(7, .val A5 x15),(8, .val (T.int .i64) x17),(9, .val (T.int .i64) p25),(12, .val (T.int .i64) s27)],[]⟩) (fun p28=>⟨[(8, .val (T.int .i64) x17),(9, .val (T.int .i64) p25)],[]⟩) 1 sB (fun _=>rfl) (fun s27=>Ad<|Ad<|Ab rfl<|Ab rfl<|Ag (Ir (Af rfl)) fun x29=>Ag (A9 rfl (Af rfl) (Af rfl)) fun x30=>Ac<|Aa.cond (Af rfl) (Aa.skip<|Ai<|AD<|Ad<|Ab rfl<|Ab rfl<|Ab rfl<|Ag (Ei (I:=(IT.int .i64)) (Af rfl) (Af rfl)) fun x31=>Aa.op (Fu (Af rfl) (Af rfl)) fun x32=>Ab rfl<|Ab rfl<|Ab rfl<|Ag (Ei (I:=(IT.int .i64)) (Af rfl) (Af rfl)) fun x33=>Aa.op (Fu (Af rfl) (Af rfl)) fun x34=>Ag (Ey (I:=IT.u8) rfl (Af rfl) (Af rfl)) fun x35=>Ac<|Aa.cond (Af rfl) (Aa.stop) (Aa.skip<|AN<|Ac<|Ab rfl<|Ag (BJ (I:=(IT.int .i64)) (Af rfl) AY) fun x36=>
 Ab rfl<|Aa.next x36 sB)) (Bh<|BD () sB)) (fun p28=>Bi<|Ai<|Ad<|Ab rfl<|Ab rfl<|Ag (Ei (I:=(IT.int .i64)) (Af rfl) (Af rfl)) fun x37=>Ab rfl<|Ac<|By<|Aa.ret (.one (AE rfl)))) fun k26=>Aa.cond (Af rfl) (Ad<|Ab rfl<|Ab rfl<|Ag (BJ (I:=(IT.int .i64)) (Af rfl) AY) fun x38=>Aa.op (dT (Af rfl) (.some (Af rfl)) .none) fun x39=>Ab rfl<|Ab rfl<|Aa.op (Fu (Af rfl) (Af rfl)) fun x40=>Aa.op (AF Jt (.cons (Af rfl)<| .one (Af rfl))) fun x41=>Ab rfl<|Ai<|Ad<|Ab rfl<|Ag (A9 rfl (Af rfl) AY) fun x42=>Ac<|Aa.cond (Af rfl) (Ad<|Aj (A3 AY)<|Ac<|By<|Aa.ret (.one (AE rfl))) (Aa.skip<|Ac<|Ab rfl<|Ab rfl<|Ag (BJ (I:=(IT.int .i64)) (Af rfl) AY) fun x43=>Ag (BJ (I:=(IT.int .i64)) (Af rfl) (Af rfl)) fun x44=>Ab rfl<|Aa.weak (k26 x44) sB)) (Aa.skip<|Aa.weak (k26 x17) sB)) (Bh<|BD () sB)) (fun p19=>Bi<|Ai<|Ad<|Aj (A3 AY)<|Ac<|Aa.ret (.one (AE rfl))))))
theorem Js:Spec tb Cy [A5,(T.int .i32)] [(T.int .i64)] (fun a=>CG a.1 a.2):=
 Spec.of Pv rfl rfl rfl NU
noncomputable def E7(a0:Int):Option Bool:=some (decide (8<a0))
noncomputable def Jy(a:Ce [(T.int .i64)]):BS tb Di [(T.int .i64)] [T.b] a:=Ad<|Aj (A3 G8)<|Ai<|Ab rfl<|Ag (A9 rfl (Af rfl) AY) fun x1=>Ab rfl<|Ac<|Aa.ret (.one (AE rfl))
theorem JI:Spec tb BL [(T.int .i64)] [T.b] (fun a=>E7 a):=
 Spec.of Ko rfl rfl rfl Jy
noncomputable def EF(a0:AR):Option ((Ar Bool 256)×Bool):=(iter (fun(s2:(Int×(Ar Bool 256)))=>if(decide (s2.1<(a0.length:Int)))=true then (ES a0 s2.1).bind fun x6=>let x7:=decide (((128:UInt8).toNat:Int)≤(x6.toNat:Int));if x7=true then (some (s2.2,false)).map fun r=> .inr (.inr r) else (Ft 256 (x6.toNat:Int)).bind fun x10=>(if x10<256 then some (s2.2.set x10 true)else none).bind fun x11=>some (.inl (IntKind.i64.wrap (s2.1+1),x11)) else some (.inr (.inl s2.2))) (0,(A2 256 T.b).z)).bind (Sum.elim (fun(p3:(Ar Bool 256))=>some (p3,true)) some)
noncomputable def LJ(a:Ce [A5]):BS tb Ef [A5] [(A2 256 T.b),T.b] a:=Ad<|Al (Cn (t:=(A2 256 T.b)) 2 rfl rfl) fun x1=>Aj (A3 G8)<|Ai<|Ad<|Aj (A3 AY)<|Ac<|AD<|Aa.loop (id:=0) (σ:=(Int×(Ar Bool 256))) (τ:=(Ar Bool 256)) (fun s2=>⟨[(0, .val A5 a),(2, .cp 2 0),(4, .val (T.int .i64) s2.1)],[(2, .cells [(256, .val (A2 256 T.b) s2.2)])]⟩) (fun p3=>⟨[(2, .cp 2 0)],[(2, .cells [(256, .val (A2 256 T.b) p3)])]⟩) (0,x1) sB (fun _=>rfl) (fun s2=>Ad<|Ad<|Ab rfl<|Ab rfl<|Ag (Ir (Af rfl)) fun x4=>Ag (A9 rfl (Af rfl) (Af rfl)) fun x5=>Ac<|Aa.cond (Af rfl) (Aa.skip<|Ai<|AD<|Ad<|Ab rfl<|Ab rfl<|Aa.op (Fu (Af rfl) (Af rfl)) fun x6=>Ab rfl<|Ai<|Ad<|Ab rfl<|Ag (Ey (I:=IT.u8) rfl (Af rfl) (sW 128 rfl)) fun x7=>Ac<|Aa.cond (Af rfl) (Ad<|Ap (A1 (t:=(A2 256 T.b)) (u:=(A2 256 T.b)) (Af rfl) rfl rfl (Ay _) rfl rfl) fun x8=>Al (Dg (Af rfl) (Af rfl) rfl rfl (Ay _) rfl) fun x9=>Aj (A3 G8)<|Ac<|By<|Aa.ret (.cons (Hk rfl rfl rfl (Ay _) rfl rfl)<| .one (AE rfl))) (Aa.skip<|Ac<|Ab rfl<|Aa.op (IV (Af rfl) (sY (Af rfl))) fun x10=>Cm (Ii (s:=(A2 256 T.b)) (Ay _) rfl (Af rfl) G8 rfl rfl) fun x11=>AN<|Ac<|Ab rfl<|Ag (BJ (I:=(IT.int .i64)) (Af rfl) AY) fun x12=>Ab rfl<|Aa.next (x12,x11) sB)) (Bh<|BD s2.2 sB)) (fun p3=>Bi<|Ai<|Ap (A1 (t:=(A2 256 T.b)) (u:=(A2 256 T.b)) (Af rfl) rfl rfl (Ay _) rfl rfl) fun x13=>Al (Dg (Af rfl) (Af rfl) rfl rfl (Ay _) rfl) fun x14=>Aj (A3 G8)<|Ac<|Aa.ret (.cons (Hk rfl rfl rfl (Ay _) rfl rfl)<| .one (AE rfl)))
theorem Md:Spec tb Cu [A5] [(A2 256 T.b),T.b] (fun a=>EF a):=
 Spec.of Nn rfl rfl rfl LJ
noncomputable def Cs(a0:(Option (Ar Bool 256)))(a1:UInt8):Option Bool:=(a0).bind fun x1=>(ES x1.l (a1.toNat:Int)).bind fun x2=>some x2
noncomputable def I9(a:Ce [(gE (A2 256 T.b)),T.u8]):BS tb CJ [(gE (A2 256 T.b)),T.u8] [T.b] a:=Ad<|Aj (A3 G8)<|Ai<|Ab rfl<|Ab rfl<|Aa.op (h_nilR (Af rfl)) fun x1=>Aa.op (uE rfl rfl (Af rfl) (sY (Af rfl))) fun x2=>Ap (Is rfl rfl (Af rfl)) fun x3=>Ab rfl<|Ac<|Aa.ret (.one (AE rfl))
theorem IL:Spec tb B7 [(gE (A2 256 T.b)),T.u8] [T.b] (fun a=>Cs a.1 a.2):=
 Spec.of J9 rfl rfl rfl I9
noncomputable def GK(a0:AR)(a1:AR):Option Int:=if(decide (a1=[]))=true then some (-1) else if(decide ((a1.length:Int)=1))=true then (ES a1 0).bind fun x4=>(fun(k8:Int→Option _)=>if(decide (128≤IntKind.i32.wrap (x4.toNat:Int)))=true then k8 65533 else k8 (IntKind.i32.wrap (x4.toNat:Int))) fun p7=>(CG a0 p7).bind fun x9=>some x9 else (E7 (a0.length:Int)).bind fun x11=>(fun(k13:Unit→Option _)=>if x11=true then (EF a1).bind fun x21=>if x21.2=true then (iter (fun(s26:Int)=>if(decide (s26<(a0.length:Int)))=true then (ES a0 s26).bind fun x30=>(Cs (some x21.1) x30).bind fun x31=>if x31=true then (some s26).map fun r=> .inr (.inr r) else some (.inl (IntKind.i64.wrap (s26+1))) else some (.inr (.inl ()))) 0).bind (Sum.elim (fun(p27:Unit)=>some (-1)) some) else k13 () else k13 ()) fun p12=>(iter (fun(s14:Nat)=>if s14<a0.length then let x16:=Et a0 s14;(CG a1 x16.1).bind fun x19=>if(decide (0≤x19))=true then (some ((s14:Nat):Int)).map fun r=> .inr (.inr r) else some (.inl (s14+x16.2)) else some (.inr (.inl ()))) 0).bind (Sum.elim (fun(p15:Unit)=>some (-1)) some)
noncomputable def Oj(a:Ce [A5,A5]):BS tb Gb [A5,A5] [(T.int .i64)] a:=Ad<|Aj (A3 AY)<|Ai<|Ad<|Ab rfl<|Ag (S9 (Af rfl) Gy) fun x1=>Ac<|Aa.cond (Af rfl) (Ad<|Aj (A3 AY)<|Ac<|Aa.ret (.one (AE rfl))) (Aa.skip<|Ai<|Ad<|Ab rfl<|Ag (Ir (Af rfl)) fun x2=>Ag (A9 rfl (Af rfl) AY) fun x3=>Ac<|Aa.cond (Af rfl) (Ad<|Ab rfl<|Aa.op (Fu (Af rfl) AY) fun x4=>Ag (HZ (I:=IT.u8) (J:=(IT.int .i32)) rfl (Af rfl)) fun x5=>Ab rfl<|Ai<|Ad<|Ab rfl<|Ag (Ey (I:=(IT.int .i32)) rfl (Af rfl) AY) fun x6=>Ac<|H4 (τ:=Int) (fun p7=>⟨[(0, .val A5 a.1),(5, .val (T.int .i32) p7)],[]⟩) (fun p7=>Ai<|Ab rfl<|Ab rfl<|Aa.op (AF Js (.cons (Af rfl)<| .one (Af rfl))) fun x9=>Ab rfl<|Ac<|Aa.ret (.one (AE rfl))) fun k8=>Aa.cond (Af rfl) (Aj (A3 AY)<|Aa.weak (k8 65533) sB) (Aa.skip<|Aa.weak (k8 x5) sB)) (Aa.skip<|Ai<|Ad<|Ab rfl<|Ag (Ir (Af rfl)) fun x10=>Aa.op (AF JI (.one (Af rfl))) fun x11=>Ac<|H4 (τ:=Unit) (fun p12=>⟨[(0, .val A5 a.1),(1, .val A5 a.2)],[]⟩) (fun p12=>Ai<|Ad<|Ab rfl<|Al (M_rng 1045 rfl (Af rfl)) fun _=>Ac<|AD<|Aa.loop (id:=2) (σ:=Nat) (τ:=Unit) (fun s14=>⟨[(1, .val A5 a.2),(45, .own 1045)],[(1045, .dom WL (a.1,s14))]⟩) (fun p15=>⟨[],[]⟩) 0 sB (fun _=>rfl) (fun s14=>Ad<|Aa.nxt (Af rfl) rfl (fun x16=>Aj (Cp (Af rfl) rfl)<|Ai<|YK (Af rfl)<|Aa.skip<|Ac<|AD<|Ad<|Ap (Cp (Af rfl) rfl) fun x17=>Ap (Cp (Af rfl) rfl) fun x18=>Ab rfl<|Ab rfl<|Ai<|Ab rfl<|Ab rfl<|Aa.op (AF Js (.cons (Af rfl)<| .one (Af rfl))) fun x19=>Ag (A9 rfl (Af rfl) AY) fun x20=>Ac<|Aa.cond (Af rfl) (Ad<|Ab rfl<|Ab rfl<|Ac<|By<|Aa.ret (.one (AE rfl))) (
 Aa.skip<|AN<|Aa.next (s14+x16.2) sB)) (Aj (Cp (Af rfl) rfl)<|Ai<|YL (Af rfl)<|Bh<|BD () sB)) (fun p15=>Bi<|Ai<|Aj (A3 AY)<|Ac<|Aa.ret (.one (AE rfl)))) fun k13=>Aa.cond (Af rfl) (Ad<|Ab rfl<|Aa.op (Jg Md (.one (Af rfl))) fun x21=>Ab rfl<|Ap (Cp (Af rfl) rfl) fun x22=>Ap (Cp (Af rfl) rfl) fun x23=>Al (Cn (t:=(A2 256 T.b)) 6 rfl rfl) fun x24=>Al (Dg (Af rfl) (Af rfl) rfl rfl (Ay _) rfl) fun x25=>Ab rfl<|Ai<|Ab rfl<|Ac<|Aa.cond (Af rfl) (Ad<|Ad<|Aj (A3 AY)<|Ac<|AD<|Aa.loop (id:=0) (σ:=Int) (τ:=Unit) (fun s26=>⟨[(0, .val A5 a.1),(6, .cp 6 0),(8, .val (T.int .i64) s26)],[(6, .cells [(256, .val (A2 256 T.b) x25)])]⟩) (fun p27=>⟨[],[]⟩) 0 sB (fun _=>rfl) (fun s26=>Ad<|Ad<|Ab rfl<|Ab rfl<|Ag (Ir (Af rfl)) fun x28=>Ag (A9 rfl (Af rfl) (Af rfl)) fun x29=>Ac<|Aa.cond (Af rfl) (Aa.skip<|Ai<|AD<|Ad<|Ab rfl<|Ab rfl<|Aa.op (Fu (Af rfl) (Af rfl)) fun x30=>Aa.op (uF IL (.cons flat_b .nil) (.cons (a_p (Af rfl) rfl rfl)<| .one (a_v (Af rfl)))) fun x31=>Ac<|Aa.cond (Af rfl) (Ad<|Ab rfl<|Ab rfl<|Ac<|By<|Aa.ret (.one (AE rfl))) (Aa.skip<|AN<|Ac<|Ab rfl<|Ag (BJ (I:=(IT.int .i64)) (Af rfl) AY) fun x32=>Ab rfl<|Aa.next x32 sB)) (Bh<|BD () sB)) (fun p27=>Bi<|Ai<|Aj (A3 AY)<|Ac<|Aa.ret (.one (AE rfl)))) (Aa.skip<|Aa.weak (k13 ()) sB)) (Aa.skip<|Aa.weak (k13 ()) sB)))
theorem Pj:Spec tb Dv [A5,A5] [(T.int .i64)] (fun a=>GK a.1 a.2):=
 Spec.of Qs rfl rfl rfl Oj
noncomputable def Fl(a0:AR)(a1:AR):Option Bool:=(GK a0 a1).bind fun x1=>some (decide (0≤x1))
noncomputable def Mh(a:Ce [A5,A5]):BS tb E2 [A5,A5] [T.b] a:=Ad<|Aj (A3 G8)<|Ai<|Ab rfl<|Ab rfl<|Aa.op (AF Pj (.cons (Af rfl)<| .one (Af rfl))) fun x1=>Ag (A9 rfl (Af rfl) AY) fun x2=>Ab rfl<|Ac<|Aa.ret (.one (AE rfl))
theorem ML:Spec tb C5 [A5,A5] [T.b] (fun a=>Fl a.1 a.2):=
 Spec.of NX rfl rfl rfl Mh
noncomputable def Je(a0:AR)(a1:AR):Option Int:=(Dp a0 a1).bind fun x1=>some x1
noncomputable def Q8(a:Ce [A5,A5]):BS tb H9 [A5,A5] [(T.int .i64)] a:=Ad<|Aj (A3 AY)<|Ai<|Ab rfl<|Ab rfl<|Aa.op (AF Ju (.cons (Af rfl)<| .one (Af rfl))) fun x1=>Ab rfl<|Ac<|Aa.ret (.one (AE rfl))
theorem RS:Spec tb El [A5,A5] [(T.int .i64)] (fun a=>Je a.1 a.2):=
 Spec.of Um rfl rfl rfl Q8
noncomputable def GL(a0:AR)(a1:AR):Option Bool:=(Je a0 a1).bind fun x1=>some (decide (0≤x1))
noncomputable def Ok(a:Ce [A5,A5]):BS tb Gc [A5,A5] [T.b] a:=Ad<|Aj (A3 G8)<|Ai<|Ab rfl<|Ab rfl<|Aa.op (AF RS (.cons (Af rfl)<| .one (Af rfl))) fun x1=>Ag (A9 rfl (Af rfl) AY) fun x2=>Ab rfl<|Ac<|Aa.ret (.one (AE rfl))
theorem Pk:Spec tb Dw [A5,A5] [T.b] (fun a=>GL a.1 a.2):=
 Spec.of Qt rfl rfl rfl Ok
noncomputable def Ht(a0:A0):Option (AR×Int):=(HO (decide (a0.Key=[])) ((Fl a0.Key [61,10]).bind fun x4=>some x4)).bind fun x5=>(HO x5 ((GL a0.Value [10]).bind fun x7=>some x7)).bind fun x8=>if x8=true then some ([],5) else (if a0.Key.length+[61].length≤2*BR then some (a0.Key++[61])else none).bind fun x10=>(if x10.length+a0.Value.length≤2*BR then some (x10++a0.Value)else none).bind fun x12=>if(decide (512<(x12.length:Int)))=true then some ([],4) else some (x12,0)
noncomputable def Q9(a:Ce [Au]):BS tb HA [Au] [A5,(T.int .i64)] a:=Ad<|Al (Bt (t:=Au) 1 rfl rfl (Af rfl)) fun _=>Aj (A3 Gy)<|Aj (A3 AY)<|Ai<|Ad<|Aj (AB (Af rfl))<|Ap (A1 (t:=Au) (u:=A5) (Af rfl) rfl rfl Cq rfl rfl) fun x1=>Ag (S9 (Af rfl) Gy) fun x2=>Ab rfl<|Aa.or 3 rfl rfl rfl (AU (AB (Af rfl))<|Bk (A1 (t:=Au) (u:=A5) (Af rfl) rfl rfl Cq rfl rfl) fun x3=>Bl.op (AF ML (.cons (Af rfl)<| .one Gy)) fun x4=>Bl.nil (Af rfl)) fun x5=>Ab rfl<|Aa.or 3 rfl rfl rfl (AU (AB (Af rfl))<|Bk (A1 (t:=Au) (u:=A5) (Af rfl) rfl rfl Cr rfl rfl) fun x6=>Bl.op (AF Pk (.cons (Af rfl)<| .one Gy)) fun x7=>Bl.nil (Af rfl)) fun x8=>Ac<|Aa.cond (Af rfl) (Ad<|Aj (A3 Gy)<|Aj (A3 AY)<|Ac<|Aa.ret (.cons (AE rfl)<| .one (AE rfl))) (Aa.skip<|Ai<|Aj (AB (Af rfl))<|Ap (A1 (t:=Au) (u:=A5) (Af rfl) rfl rfl Cq rfl rfl) fun x9=>Aa.op (JP (Af rfl) Gy) fun x10=>Aj (AB (Af rfl))<|Ap (A1 (t:=Au) (u:=A5) (Af rfl) rfl rfl Cr rfl rfl) fun x11=>Aa.op (JP (Af rfl) (Af rfl)) fun x12=>Ab rfl<|Ai<|Ad<|Ab rfl<|Ag (Ir (Af rfl)) fun x13=>Ag (A9 rfl (Af rfl) AY) fun x14=>Ac<|Aa.cond (Af rfl) (Ad<|Aj (A3 Gy)<|Aj (A3 AY)<|Ac<|Aa.ret (.cons (AE rfl)<| .one (AE rfl))) (Aa.skip<|Ai<|Ab rfl<|Ab rfl<|Aj (A3 AY)<|Ac<|Aa.ret (.cons (AE rfl)<| .one (AE rfl))))
theorem RT:Spec tb Em [Au] [A5,(T.int .i64)] (fun a=>Ht a):=
 Spec.of Un rfl rfl rfl Q9
noncomputable def Nd(a0:(GS AR)):Option AR:=(iter (fun(s3:(Int×AR))=>if(decide (s3.1<(a0.l.length:Int)))=true then (ES a0.l s3.1).bind fun x6=>(Le s3.2 x6).bind fun x8=>(Le x8 [10]).bind fun x9=>some (.inl (IntKind.i64.wrap (s3.1+1),x9)) else some (.inr (.inl s3.2))) (0,[])).bind (Sum.elim (fun(p4:AR)=>(aH false p4).bind fun x11=>some x11) some)
noncomputable def UZ(a:Ce [(T.sl A5)]):BS tb Kw [(T.sl A5)] [A5] a:=Ad<|Aj (A3 Gy)<|Ai<|Al (kD 3 5 rfl rfl) fun x1=>Ai<|Ad<|Ab rfl<|Ag (DL (Af rfl)) fun x2=>Aj (A3 AY)<|Ac<|AD<|Aa.loop (id:=0) (σ:=(Int×AR)) (τ:=AR) (fun s3=>⟨[(3, .own 3),(6, .val (T.sl A5) a),(7, .val (T.int .i64) x2),(8, .val (T.int .i64) s3.1)],[(3, .dom (NB 107 5 false) s3.2)]⟩) (fun p4=>⟨[(3, .own 3)],[(3, .dom (NB 107 5 false) p4)]⟩) (0,x1) sB (fun _=>rfl) (fun s3=>Ad<|Ag (A9 rfl (Af rfl) (Af rfl)) fun x5=>Ai<|Aa.cond (Af rfl) (Aa.skip<|Ai<|AD<|Ad<|Aa.op (F7 rfl (Af rfl) (Af rfl)) fun x6=>Ap (Is rfl rfl (Af rfl)) fun x7=>Ab rfl<|Ai<|Ab rfl<|Cm (WI Br rfl BQ (Af rfl) rfl (Af rfl)) fun x8=>Ac<|Cm (WI Br rfl BQ (Af rfl) rfl Gy) fun x9=>AN<|Ac<|Ag (BJ (I:=(IT.int .i64)) (Af rfl) AY) fun x10=>Ab rfl<|Aa.next (x10,x9) sB) (Bh<|BD s3.2 sB)) (fun p4=>Bi<|Ai<|Cm (kC Ez (Af rfl) rfl) fun x11=>Ab rfl<|Ac<|Aa.ret (.one (AE rfl)))
theorem WQ:Spec tb Gr [(T.sl A5)] [A5] (fun a=>Nd a):=
 Spec.of ZR rfl rfl rfl UZ
noncomputable def DH(a0:(GS A0)):Option (AR×Int):=if(decide (400<(a0.l.length:Int)))=true then some ([],4) else (iter (fun(s4:(Int×(GS AR)))=>if(decide (s4.1<(a0.l.length:Int)))=true then (ES a0.l s4.1).bind fun x7=>(Ht x7).bind fun x12=>if(!decide (x12.2=0))=true then (some ([],x12.2)).map fun r=> .inr (.inr r) else (W7 16 s4.2 [x12.1]).bind fun x17=>some (.inl (IntKind.i64.wrap (s4.1+1),x17)) else some (.inr (.inl s4.2))) (0, .nil)).bind (Sum.elim (fun(p5:(GS AR))=>(W7 16 p5 [[]]).bind fun x20=>(Nd x20).bind fun x21=>some (x21,0)) some)
noncomputable def PQ(a:Ce [(T.sl Au)]):BS tb Hf [(T.sl Au)] [A5,(T.int .i64)] a:=Ad<|Aj (A3 Gy)<|Aj (A3 AY)<|Ai<|Ad<|Ab rfl<|Ag (DL (Af rfl)) fun x1=>Ag (A9 rfl (Af rfl) AY) fun x2=>Ac<|Aa.cond (Af rfl) (Ad<|Aj (A3 Gy)<|Aj (A3 AY)<|Ac<|Aa.ret (.cons (AE rfl)<| .one (AE rfl))) (Aa.skip<|Ai<|Aj (A3 (MV (t:=A5)))<|Aa.turn (born (n:=4) (j:=1004) rfl rfl)<|Ai<|Ad<|Ab rfl<|Ag (DL (Af rfl)) fun x3=>Aj (A3 AY)<|Ac<|AD<|Aa.loop (id:=0) (σ:=(Int×(GS AR))) (τ:=(GS AR)) (fun s4=>⟨[(4, .own 1004),(12, .val (T.sl Au) a),(13, .val (T.int .i64) x3),(14, .val (T.int .i64) s4.1)],[(1004, .row A5 s4.2)]⟩) (fun p5=>⟨[(4, .own 1004)],[(1004, .row A5 p5)]⟩) (0, .nil) sB (fun _=>rfl) (fun s4=>Ad<|Ag (A9 rfl (Af rfl) (Af rfl)) fun x6=>Ai<|Aa.cond (Af rfl) (Aa.skip<|Ai<|AD<|Ad<|Aa.op (F7 rfl (Af rfl) (Af rfl)) fun x7=>Ap (Is rfl rfl (Af rfl)) fun x8=>Al (Cn (t:=Au) 6 rfl rfl) fun x9=>Al (Dg (Af rfl) (Af rfl) rfl rfl (Ay _) rfl) fun x10=>Ai<|Ap (A1 (t:=Au) (u:=Au) (Af rfl) rfl rfl (Ay _) rfl rfl) fun x11=>Aa.op (Jg RT (.one (Af rfl))) fun x12=>Ab rfl<|Ap (Cp (Af rfl) rfl) fun x13=>Ap (Cp (Af rfl) rfl) fun x14=>Ab rfl<|Ab rfl<|Ai<|Ad<|Ab rfl<|Ag (A9 rfl (Af rfl) AY) fun x15=>Ac<|Aa.cond (Af rfl) (Ad<|Ab rfl<|Aj (A3 Gy)<|Ab rfl<|Ac<|By<|Aa.ret (.cons (AE rfl)<| .one (AE rfl))) (Aa.skip<|Ac<|Ab rfl<|Ab rfl<|Ag (NH (t:=A5) (n:=1) rfl rfl (.cons rfl (Af rfl)<| .nil _)) fun x16=>Cm (NR rfl (Af rfl) rfl (TU (Af rfl))) fun x17=>Ab rfl<|AN<|Ac<|Ag (BJ (I:=(IT.int .i64)) (Af rfl) AY) fun x18=>Ab rfl<|Aa.next (x18,x17) sB)) (
 Bh<|BD s4.2 sB)) (fun p5=>Bi<|Ai<|Ab rfl<|Ag (NH (t:=A5) (n:=1) rfl rfl (.cons rfl Gy<| .nil _)) fun x19=>Cm (NR rfl (Af rfl) rfl (TU (Af rfl))) fun x20=>Aa.frzRow 1004 rfl rfl<|Aa.op (AF WQ (.one (Af rfl))) fun x21=>Ab rfl<|Aj (A3 AY)<|Ac<|Aa.ret (.cons (AE rfl)<| .one (AE rfl))))
theorem Li:Spec tb Ds [(T.sl Au)] [A5,(T.int .i64)] (fun a=>DH a):=
 Spec.of SF rfl rfl rfl PQ
noncomputable def F8(a0:Be):Option (AR×Int):=(IK a0).bind fun x2=>if(!x2)=true then some ([],1) else let x5:=(⟨1,a0.Private,0,Aq.z,Ah.z⟩:An);let x8:=(⟨2,(A2 32 T.u8).z,IT.u64.ofI a0.Port,Aq.z,Ah.z⟩:An);let x11:=(⟨3,(A2 32 T.u8).z,IT.u64.ofI (a0.Mark.toNat:Int),Aq.z,Ah.z⟩:An);(iter (fun(s15:(Int×(GS An)))=>if(decide (s15.1<(a0.Peers.l.length:Int)))=true then (ES a0.Peers.l s15.1).bind fun x18=>(J7 x18).bind fun x23=>(W7 112 s15.2 x23.l).bind fun x24=>some (.inl (IntKind.i64.wrap (s15.1+1),x24)) else some (.inr (.inl s15.2))) (0,(GS.mk [x5,x8,x11]))).bind (Sum.elim (fun(p16:(GS An))=>let x26:=(⟨16,(A2 32 T.u8).z,0,Aq.z,Ah.z⟩:An);(W7 112 p16 [x26]).bind fun x28=>(FS x28).bind fun x29=>(DH x29).bind fun x30=>some (x30.1,x30.2)) some)
noncomputable def TP(a:Ce [Az]):BS tb Jn [Az] [A5,(T.int .i64)] a:=Ad<|Al (Bt (t:=Az) 1 rfl rfl (Af rfl)) fun _=>Aj (A3 Gy)<|Aj (A3 AY)<|Ai<|Ad<|Ap (A1 (t:=Az) (u:=Az) (Af rfl) rfl rfl (Ay _) rfl rfl) fun x1=>Aa.op (AF WP (.one (Af rfl))) fun x2=>Ag (EJ (Af rfl)) fun x3=>Ac<|Aa.cond (Af rfl) (Ad<|Aj (A3 Gy)<|Aj (A3 AY)<|Ac<|Aa.ret (.cons (AE rfl)<| .one (AE rfl))) (Aa.skip<|Ai<|Aj (AB (Af rfl))<|Ap (A1 (t:=Az) (u:=(A2 32 T.u8)) (Af rfl) rfl rfl HT rfl rfl) fun x4=>Ag (D4 rfl rfl (.cons A7 rfl AY<| .cons Gl rfl (Af rfl)<| .nil _)) fun x5=>Aj (AB (Af rfl))<|Ap (A1 (t:=Az) (u:=(T.int .i64)) (Af rfl) rfl rfl Gm rfl rfl) fun x6=>Ag (HZ (I:=(IT.int .i64)) (J:=IT.u64) rfl (Af rfl)) fun x7=>Ag (D4 rfl rfl (.cons A7 rfl AY<| .cons BY rfl (Af rfl)<| .nil _)) fun x8=>Aj (AB (Af rfl))<|Ap (A1 (t:=Az) (u:=T.u32) (Af rfl) rfl rfl JX rfl rfl) fun x9=>Ag (HZ (I:=IT.u32) (J:=IT.u64) rfl (Af rfl)) fun x10=>Ag (D4 rfl rfl (.cons A7 rfl AY<| .cons BY rfl (Af rfl)<| .nil _)) fun x11=>Al (M_bls (t:=Ae) (n:=3) 1004 rfl rfl (.cons rfl (Af rfl)<| .cons rfl (Af rfl)<| .cons rfl (Af rfl)<| .nil _) rfl) fun x12=>Ab rfl<|Ai<|Ad<|Aj (AB (Af rfl))<|Ap (A1 (t:=Az) (u:=(T.sl Ax)) (Af rfl) rfl rfl Bw rfl rfl) fun x13=>Ag (DL (Af rfl)) fun x14=>Aj (A3 AY)<|Ac<|AD<|Aa.loop (id:=0) (σ:=(Int×(GS An))) (τ:=(GS An)) (fun s15=>⟨[(4, .own 1004),(23, .val (T.sl Ax) x13),(24, .val (T.int .i64) x14),(25, .val (T.int .i64) s15.1)],[(1004, .row Ae s15.2)]⟩) (fun p16=>⟨[(4, .own 1004)],[(1004, .row Ae p16)]⟩) (0,(.mk x12)) sB (fun _=>rfl) (fun s15=>
 Ad<|Ag (A9 rfl (Af rfl) (Af rfl)) fun x17=>Ai<|Aa.cond (Af rfl) (Aa.skip<|Ai<|AD<|Ad<|Aa.op (F7 rfl (Af rfl) (Af rfl)) fun x18=>Ap (Is rfl rfl (Af rfl)) fun x19=>Al (Cn (t:=Ax) 6 rfl rfl) fun x20=>Al (Dg (Af rfl) (Af rfl) rfl rfl (Ay _) rfl) fun x21=>Ac<|Ab rfl<|Ap (A1 (t:=Ax) (u:=Ax) (Af rfl) rfl rfl (Ay _) rfl rfl) fun x22=>Aa.op (AF UV (.one (Af rfl))) fun x23=>Cm (NR rfl (Af rfl) rfl (TU (Af rfl))) fun x24=>Ab rfl<|AN<|Ac<|Ag (BJ (I:=(IT.int .i64)) (Af rfl) AY) fun x25=>Ab rfl<|Aa.next (x25,x24) sB) (Bh<|BD s15.2 sB)) (fun p16=>Bi<|Ai<|Ab rfl<|Ag (D4 rfl rfl (.cons A7 rfl AY<| .nil _)) fun x26=>Ag (NH (t:=Ae) (n:=1) rfl rfl (.cons rfl (Af rfl)<| .nil _)) fun x27=>Cm (NR rfl (Af rfl) rfl (TU (Af rfl))) fun x28=>Aa.frzRow 1004 rfl rfl<|Aa.op (AF ND (.one (Af rfl))) fun x29=>Aa.op (Jg Li (.one (Af rfl))) fun x30=>Ap (Cp (Af rfl) rfl) fun x31=>Ap (Cp (Af rfl) rfl) fun x32=>Ab rfl<|Ab rfl<|Ac<|Aa.ret (.cons (AE rfl)<| .one (AE rfl))))
theorem KI:Spec tb DM [Az] [A5,(T.int .i64)] (fun a=>F8 a):=
 Spec.of X1 rfl rfl rfl TP
noncomputable def OO(a0:AR)(a1:UInt8):Option (GS AR):=(iter (fun(s1:(Int×Int×(GS AR)))=>if(decide (s1.2.1<(a0.length:Int)))=true then (ES a0 s1.2.1).bind fun x5=>if(decide ((x5.toNat:Int)=(a1.toNat:Int)))=true then (UQ a0 (some s1.1) (some s1.2.1)).bind fun x7=>(W7 16 s1.2.2 [x7]).bind fun x9=>some (.inl (IntKind.i64.wrap (s1.2.1+1),IntKind.i64.wrap (s1.2.1+1),x9)) else some (.inl (s1.1,IntKind.i64.wrap (s1.2.1+1),s1.2.2)) else some (.inr (.inl (s1.1,s1.2.2)))) (0,0, .nil)).bind (Sum.elim (fun(p2:(Int×(GS AR)))=>(UQ a0 (some p2.1) none).bind fun x13=>(W7 16 p2.2 [x13]).bind fun x15=>some x15) some)
noncomputable def Xa(a:Ce [A5,T.u8]):BS tb L5 [A5,T.u8] [(T.sl A5)] a:=Ad<|Aj (A3 (MV (t:=A5)))<|Aa.turn (born (n:=4) (j:=1004) rfl rfl)<|Ai<|Aj (A3 AY)<|Ai<|Aj (A3 (MV (t:=A5)))<|Aa.turn (born (n:=6) (j:=2004) rfl rfl)<|Ai<|Ad<|Aj (A3 AY)<|Ac<|AD<|Aa.loop (id:=0) (σ:=(Int×Int×(GS AR))) (τ:=(Int×(GS AR))) (fun s1=>⟨[(0, .val A5 a.1),(1, .val T.u8 a.2),(5, .val (T.int .i64) s1.1),(6, .own 2004),(7, .val (T.int .i64) s1.2.1)],[(2004, .row A5 s1.2.2)]⟩) (fun p2=>⟨[(0, .val A5 a.1),(5, .val (T.int .i64) p2.1),(6, .own 2004)],[(2004, .row A5 p2.2)]⟩) (0,0, .nil) sB (fun _=>rfl) (fun s1=>Ad<|Ad<|Ab rfl<|Ab rfl<|Ag (Ir (Af rfl)) fun x3=>Ag (A9 rfl (Af rfl) (Af rfl)) fun x4=>Ac<|Aa.cond (Af rfl) (Aa.skip<|Ai<|AD<|Ad<|Ab rfl<|Ab rfl<|Aa.op (Fu (Af rfl) (Af rfl)) fun x5=>Ab rfl<|Ag (Ey (I:=IT.u8) rfl (Af rfl) (Af rfl)) fun x6=>Ac<|Aa.cond (Af rfl) (Ad<|Ab rfl<|Ab rfl<|Ab rfl<|Ab rfl<|Aa.op (dT (Af rfl) (.some (Af rfl)) (.some (Af rfl))) fun x7=>Ag (NH (t:=A5) (n:=1) rfl rfl (.cons rfl (Af rfl)<| .nil _)) fun x8=>Cm (NR rfl (Af rfl) rfl (TU (Af rfl))) fun x9=>Ab rfl<|Ac<|Ab rfl<|Ag (BJ (I:=(IT.int .i64)) (Af rfl) AY) fun x10=>Ab rfl<|AN<|Ac<|Ab rfl<|Ag (BJ (I:=(IT.int .i64)) (Af rfl) AY) fun x11=>Ab rfl<|Aa.next (x10,x11,x9) sB) (Aa.skip<|AN<|Ac<|Ab rfl<|Ag (BJ (I:=(IT.int .i64)) (Af rfl) AY) fun x12=>Ab rfl<|Aa.next (s1.1,x12,s1.2.2) sB)) (Bh<|BD (s1.1,s1.2.2) sB)) (fun p2=>Bi<|Ai<|Ab rfl<|Ab rfl<|Ab rfl<|Aa.op (dT (Af rfl) (.some (Af rfl)) .none) fun x13=>Ag (NH (t:=A5) (n:=1) rfl rfl (.cons rfl (Af rfl)<| .nil _)) fun x14=>
 Cm (NR rfl (Af rfl) rfl (TU (Af rfl))) fun x15=>Ab rfl<|Ac<|Aa.frzRow 2004 rfl rfl<|Aa.ret (.one (AE rfl)))
theorem YV:Spec tb GU [A5,T.u8] [(T.sl A5)] (fun a=>OO a.1 a.2):=
 Spec.of eS rfl rfl rfl Xa
noncomputable def OP(a0:AR):Option (GS AR):=(OO a0 (10:UInt8)).bind fun x1=>(ES x1.l (IntKind.i64.wrap ((x1.l.length:Int)-1))).bind fun x4=>if(decide (x4=[]))=true then (slG x1 none (some (IntKind.i64.wrap ((x1.l.length:Int)-1)))).bind fun x9=>some x9 else some x1
noncomputable def Xb(a:Ce [A5]):BS tb L6 [A5] [(T.sl A5)] a:=Ad<|Aj (A3 (MV (t:=A5)))<|Ai<|Ab rfl<|Aa.op (AF YV (.cons (Af rfl)<| .one (sW 10 rfl))) fun x1=>Ab rfl<|Ai<|Ad<|Ab rfl<|Ab rfl<|Ag (DL (Af rfl)) fun x2=>Ag (Ei (I:=(IT.int .i64)) (Af rfl) AY) fun x3=>Aa.op (F7 rfl (Af rfl) (Af rfl)) fun x4=>Ap (Is rfl rfl (Af rfl)) fun x5=>Ag (S9 (Af rfl) Gy) fun x6=>Ac<|Aa.cond (Af rfl) (Ad<|Ab rfl<|Ab rfl<|Ag (DL (Af rfl)) fun x7=>Ag (Ei (I:=(IT.int .i64)) (Af rfl) AY) fun x8=>Aa.op (h_sll rfl (Af rfl) .none (.some (Af rfl))) fun x9=>Ab rfl<|Ac<|Aa.ret (.one (AE rfl))) (Aa.skip<|Ai<|Ab rfl<|Ab rfl<|Ac<|Aa.ret (.one (AE rfl)))
theorem YW:Spec tb GV [A5] [(T.sl A5)] (fun a=>OP a):=
 Spec.of eT rfl rfl rfl Xb
noncomputable def GC(a0:Int):Option AR:=(HO (decide (a0<0)) (some (decide (20<a0)))).bind fun x3=>(fun(k5:Int→Option _)=>if x3=true then k5 1 else k5 a0) fun p4=>let x7:=(⟨16,(A2 32 T.u8).z,IT.u64.ofI p4,Aq.z,Ah.z⟩:An);(FS (GS.mk [x7])).bind fun x9=>(DH x9).bind fun x10=>some x10.1
noncomputable def PT(a:Ce [(T.int .i64)]):BS tb Hh [(T.int .i64)] [A5] a:=Ad<|Aj (A3 Gy)<|Ai<|Ad<|Ab rfl<|Ag (A9 rfl (Af rfl) AY) fun x1=>Ab rfl<|Aa.or 2 rfl rfl rfl (AU (A3 (Af rfl))<|Bf (A9 rfl (Af rfl) AY) fun x2=>Bl.nil (Af rfl)) fun x3=>Ac<|H4 (τ:=Int) (fun p4=>⟨[(0, .val (T.int .i64) p4)],[]⟩) (fun p4=>Ai<|Ab rfl<|Ag (HZ (I:=(IT.int .i64)) (J:=IT.u64) rfl (Af rfl)) fun x6=>Ag (D4 rfl rfl (.cons A7 rfl AY<| .cons BY rfl (Af rfl)<| .nil _)) fun x7=>Ag (NH (t:=Ae) (n:=1) rfl rfl (.cons rfl (Af rfl)<| .nil _)) fun x8=>Aa.op (AF ND (.one (Af rfl))) fun x9=>Aa.op (Jg Li (.one (Af rfl))) fun x10=>Ab rfl<|Ap (Cp (Af rfl) rfl) fun x11=>Ap (Cp (Af rfl) rfl) fun x12=>Ab rfl<|Ab rfl<|Ai<|Ab rfl<|Ab rfl<|Ac<|Aa.ret (.one (AE rfl))) fun k5=>Aa.cond (Af rfl) (Aj (A3 AY)<|Aa.weak (k5 1) sB) (Aa.skip<|Aa.weak (k5 a) sB)
theorem Q6:Spec tb DU [(T.int .i64)] [A5] (fun a=>GC a):=
 Spec.of SH rfl rfl rfl PT
noncomputable def Ms(_:Unit):Option Bool:=(F8 (⟨(A2 32 T.u8).z,0,0, .nil⟩:Be)).bind fun x2=>(De (decide (x2.2=0)) ((OP x2.1).bind fun x6=>some (decide ((x6.l.length:Int)=5)))).bind fun x9=>(De x9 ((GC 7).bind fun x10=>let x11:=decide (x10=[101,114,114,110,111,61,55,10,10]);some x11)).bind fun x12=>some x12
noncomputable def Xd(a:Ce []):BS tb L8 [] [T.b] a:=Ad<|Aj (A3 G8)<|Ai<|Ag (D4 rfl rfl (.nil _)) fun x1=>Aa.op (Jg KI (.one (Af rfl))) fun x2=>Ab rfl<|Ap (Cp (Af rfl) rfl) fun x3=>Ap (Cp (Af rfl) rfl) fun x4=>Ab rfl<|Ab rfl<|Ai<|Ab rfl<|Ag (A9 rfl (Af rfl) AY) fun x5=>Ab rfl<|Aa.and 4 rfl rfl rfl (AU (A3 (Af rfl))<|Bl.op (AF YW (.one (Af rfl))) fun x6=>Bf (DL (Af rfl)) fun x7=>Bf (A9 rfl (Af rfl) AY) fun x8=>Bl.nil (Af rfl)) fun x9=>Ab rfl<|Aa.and 2 rfl rfl rfl (Bl.op (AF Q6 (.one AY)) fun x10=>Bf (S9 (Af rfl) Gy) fun x11=>Bl.nil (Af rfl)) fun x12=>Ab rfl<|Ac<|Aa.ret (.one (AE rfl))
theorem Q5:Spec tb FW [] [T.b] (fun a=>Ms ()):=
 Spec.of eV rfl rfl rfl Xd
noncomputable def QR(a0:(GS Ao))(a1:(GS Ao)):Option Bool:=let x3:= !decide ((a0.l.length:Int)=(a1.l.length:Int));if x3=true then some false else (iter (fun(s4:Int)=>if(decide (s4<(a0.l.length:Int)))=true then (ES a0.l s4).bind fun x8=>(ES a1.l s4).bind fun x10=>if(!(G7 Db x8 x10))=true then (some false).map fun r=> .inr (.inr r) else some (.inl (IntKind.i64.wrap (s4+1))) else some (.inr (.inl ()))) 0).bind (Sum.elim (fun(p5:Unit)=>some true) some)
noncomputable def Zg(a:Ce [(T.sl Ah),(T.sl Ah)]):BS tb N2 [(T.sl Ah),(T.sl Ah)] [T.b] a:=Ad<|Aj (A3 G8)<|Ai<|Ad<|Ab rfl<|Ag (DL (Af rfl)) fun x1=>Ab rfl<|Ag (DL (Af rfl)) fun x2=>Ag (A9 rfl (Af rfl) (Af rfl)) fun x3=>Ac<|Aa.cond (Af rfl) (Ad<|Aj (A3 G8)<|Ac<|Aa.ret (.one (AE rfl))) (Aa.skip<|Ai<|Ad<|Aj (A3 AY)<|Ac<|AD<|Aa.loop (id:=0) (σ:=Int) (τ:=Unit) (fun s4=>⟨[(0, .val (T.sl Ah) a.1),(1, .val (T.sl Ah) a.2),(5, .val (T.int .i64) s4)],[]⟩) (fun p5=>⟨[],[]⟩) 0 sB (fun _=>rfl) (fun s4=>Ad<|Ad<|Ab rfl<|Ab rfl<|Ag (DL (Af rfl)) fun x6=>Ag (A9 rfl (Af rfl) (Af rfl)) fun x7=>Ac<|Aa.cond (Af rfl) (Aa.skip<|Ai<|AD<|Ad<|Ab rfl<|Ab rfl<|Aa.op (F7 rfl (Af rfl) (Af rfl)) fun x8=>Ap (Is rfl rfl (Af rfl)) fun x9=>Ab rfl<|Ab rfl<|Aa.op (F7 rfl (Af rfl) (Af rfl)) fun x10=>Ap (Is rfl rfl (Af rfl)) fun x11=>Ag (M1 Db rfl rfl (Af rfl) (Af rfl)) fun x12=>Ac<|Aa.cond (Af rfl) (Ad<|Aj (A3 G8)<|Ac<|By<|Aa.ret (.one (AE rfl))) (Aa.skip<|AN<|Ac<|Ab rfl<|Ag (BJ (I:=(IT.int .i64)) (Af rfl) AY) fun x13=>Ab rfl<|Aa.next x13 sB)) (Bh<|BD () sB)) (fun p5=>Bi<|Ai<|Aj (A3 G8)<|Ac<|Aa.ret (.one (AE rfl))))
theorem bH:Spec tb Ib [(T.sl Ah),(T.sl Ah)] [T.b] (fun a=>QR a.1 a.2):=
 Spec.of jH rfl rfl rfl Zg
noncomputable def Io(a0:AI)(a1:AI):Option Bool:=(De (G7 (DT 32 BZ.u8) a0.Key a1.Key) (some (G7 (DT 32 BZ.u8) a0.Psk a1.Psk))).bind fun x7=>(De x7 (some (G7 Du a0.End a1.End))).bind fun x11=>(De x11 (some (decide (a0.Keep=a1.Keep)))).bind fun x15=>(De x15 (let x18:=decide ((a0.Sent.toNat:Int)=(a1.Sent.toNat:Int));some x18)).bind fun x19=>(De x19 (let x22:=decide ((a0.Got.toNat:Int)=(a1.Got.toNat:Int));some x22)).bind fun x23=>(De x23 ((QR a0.Allowed a1.Allowed).bind fun x26=>some x26)).bind fun x27=>some x27
noncomputable def Sb(a:Ce [Ax,Ax]):BS tb Ix [Ax,Ax] [T.b] a:=Ad<|Al (Bt (t:=Ax) 2 rfl rfl (Af rfl)) fun _=>Al (Bt (t:=Ax) 3 rfl rfl (Af rfl)) fun _=>Aj (A3 G8)<|Ai<|Aj (AB (Af rfl))<|Ap (A1 (t:=Ax) (u:=(A2 32 T.u8)) (Af rfl) rfl rfl DR rfl rfl) fun x1=>Aj (AB (Af rfl))<|Ap (A1 (t:=Ax) (u:=(A2 32 T.u8)) (Af rfl) rfl rfl DR rfl rfl) fun x2=>Ag (M1 (DT 32 BZ.u8) rfl rfl (Af rfl) (Af rfl)) fun x3=>Ab rfl<|Aa.and 5 rfl rfl rfl (AU (AB (Af rfl))<|Bk (A1 (t:=Ax) (u:=(A2 32 T.u8)) (Af rfl) rfl rfl KZ rfl rfl) fun x4=>AU (AB (Af rfl))<|Bk (A1 (t:=Ax) (u:=(A2 32 T.u8)) (Af rfl) rfl rfl KZ rfl rfl) fun x5=>Bf (M1 (DT 32 BZ.u8) rfl rfl (Af rfl) (Af rfl)) fun x6=>Bl.nil (Af rfl)) fun x7=>Ab rfl<|Aa.and 5 rfl rfl rfl (AU (AB (Af rfl))<|Bk (A1 (t:=Ax) (u:=Aq) (Af rfl) rfl rfl DS rfl rfl) fun x8=>AU (AB (Af rfl))<|Bk (A1 (t:=Ax) (u:=Aq) (Af rfl) rfl rfl DS rfl rfl) fun x9=>Bf (M1 Du rfl rfl (Af rfl) (Af rfl)) fun x10=>Bl.nil (Af rfl)) fun x11=>Ab rfl<|Aa.and 5 rfl rfl rfl (AU (AB (Af rfl))<|Bk (A1 (t:=Ax) (u:=(T.int .i64)) (Af rfl) rfl rfl Gk rfl rfl) fun x12=>AU (AB (Af rfl))<|Bk (A1 (t:=Ax) (u:=(T.int .i64)) (Af rfl) rfl rfl Gk rfl rfl) fun x13=>Bf (A9 rfl (Af rfl) (Af rfl)) fun x14=>Bl.nil (Af rfl)) fun x15=>Ab rfl<|Aa.and 5 rfl rfl rfl (AU (AB (Af rfl))<|Bk (A1 (t:=Ax) (u:=T.u64) (Af rfl) rfl rfl JW rfl rfl) fun x16=>AU (AB (Af rfl))<|Bk (A1 (t:=Ax) (u:=T.u64) (Af rfl) rfl rfl JW rfl rfl) fun x17=>Bf (Ey (I:=IT.u64) rfl (Af rfl) (Af rfl)) fun x18=>Bl.nil (Af rfl)) fun x19=>Ab rfl<|Aa.and 5 rfl rfl rfl (AU (AB (Af rfl))<|
 Bk (A1 (t:=Ax) (u:=T.u64) (Af rfl) rfl rfl La rfl rfl) fun x20=>AU (AB (Af rfl))<|Bk (A1 (t:=Ax) (u:=T.u64) (Af rfl) rfl rfl La rfl rfl) fun x21=>Bf (Ey (I:=IT.u64) rfl (Af rfl) (Af rfl)) fun x22=>Bl.nil (Af rfl)) fun x23=>Ab rfl<|Aa.and 5 rfl rfl rfl (AU (AB (Af rfl))<|Bk (A1 (t:=Ax) (u:=(T.sl Ah)) (Af rfl) rfl rfl Ch rfl rfl) fun x24=>AU (AB (Af rfl))<|Bk (A1 (t:=Ax) (u:=(T.sl Ah)) (Af rfl) rfl rfl Ch rfl rfl) fun x25=>Bl.op (AF bH (.cons (Af rfl)<| .one (Af rfl))) fun x26=>Bl.nil (Af rfl)) fun x27=>Ab rfl<|Ac<|Aa.ret (.one (AE rfl))
theorem TG:Spec tb E9 [Ax,Ax] [T.b] (fun a=>Io a.1 a.2):=
 Spec.of VZ rfl rfl rfl Sb
noncomputable def QQ(a0:Be)(a1:Be):Option Bool:=let x3:= !(G7 (DT 32 BZ.u8) a0.Private a1.Private);(HO x3 (some (!decide (a0.Port=a1.Port)))).bind fun x7=>(HO x7 (let x10:= !decide ((a0.Mark.toNat:Int)=(a1.Mark.toNat:Int));some x10)).bind fun x11=>(HO x11 (let x16:= !decide ((a0.Peers.l.length:Int)=(a1.Peers.l.length:Int));some x16)).bind fun x17=>if x17=true then some false else (iter (fun(s18:Int)=>if(decide (s18<(a0.Peers.l.length:Int)))=true then (ES a0.Peers.l s18).bind fun x24=>(ES a1.Peers.l s18).bind fun x27=>(Io x24 x27).bind fun x29=>if(!x29)=true then (some false).map fun r=> .inr (.inr r) else some (.inl (IntKind.i64.wrap (s18+1))) else some (.inr (.inl ()))) 0).bind (Sum.elim (fun(p19:Unit)=>some true) some)
noncomputable def Zf(a:Ce [Az,Az]):BS tb N1 [Az,Az] [T.b] a:=Ad<|Al (Bt (t:=Az) 2 rfl rfl (Af rfl)) fun _=>Al (Bt (t:=Az) 3 rfl rfl (Af rfl)) fun _=>Aj (A3 G8)<|Ai<|Ad<|Aj (AB (Af rfl))<|Ap (A1 (t:=Az) (u:=(A2 32 T.u8)) (Af rfl) rfl rfl HT rfl rfl) fun x1=>Aj (AB (Af rfl))<|Ap (A1 (t:=Az) (u:=(A2 32 T.u8)) (Af rfl) rfl rfl HT rfl rfl) fun x2=>Ag (M1 (DT 32 BZ.u8) rfl rfl (Af rfl) (Af rfl)) fun x3=>Ab rfl<|Aa.or 5 rfl rfl rfl (AU (AB (Af rfl))<|Bk (A1 (t:=Az) (u:=(T.int .i64)) (Af rfl) rfl rfl Gm rfl rfl) fun x4=>AU (AB (Af rfl))<|Bk (A1 (t:=Az) (u:=(T.int .i64)) (Af rfl) rfl rfl Gm rfl rfl) fun x5=>Bf (A9 rfl (Af rfl) (Af rfl)) fun x6=>Bl.nil (Af rfl)) fun x7=>Ab rfl<|Aa.or 5 rfl rfl rfl (AU (AB (Af rfl))<|Bk (A1 (t:=Az) (u:=T.u32) (Af rfl) rfl rfl JX rfl rfl) fun x8=>AU (AB (Af rfl))<|Bk (A1 (t:=Az) (u:=T.u32) (Af rfl) rfl rfl JX rfl rfl) fun x9=>Bf (Ey (I:=IT.u32) rfl (Af rfl) (Af rfl)) fun x10=>Bl.nil (Af rfl)) fun x11=>Ab rfl<|Aa.or 7 rfl rfl rfl (AU (AB (Af rfl))<|Bk (A1 (t:=Az) (u:=(T.sl Ax)) (Af rfl) rfl rfl Bw rfl rfl) fun x12=>Bf (DL (Af rfl)) fun x13=>AU (AB (Af rfl))<|Bk (A1 (t:=Az) (u:=(T.sl Ax)) (Af rfl) rfl rfl Bw rfl rfl) fun x14=>Bf (DL (Af rfl)) fun x15=>Bf (A9 rfl (Af rfl) (Af rfl)) fun x16=>Bl.nil (Af rfl)) fun x17=>Ac<|Aa.cond (Af rfl) (Ad<|Aj (A3 G8)<|Ac<|Aa.ret (.one (AE rfl))) (Aa.skip<|Ai<|Ad<|Aj (A3 AY)<|Ac<|AD<|Aa.loop (id:=0) (σ:=Int) (τ:=Unit) (fun s18=>⟨[(2, .cp 2 0),(3, .cp 3 0),(5, .val (T.int .i64) s18)],[(2, .cells [(35, .val Az a.1)]),(3, .cells [(35, .val Az a.2)])]⟩) (fun p19=>⟨[],[]⟩) 0 sB (fun _=>rfl) (fun s18=>
 Ad<|Ad<|Ab rfl<|Aj (AB (Af rfl))<|Ap (A1 (t:=Az) (u:=(T.sl Ax)) (Af rfl) rfl rfl Bw rfl rfl) fun x20=>Ag (DL (Af rfl)) fun x21=>Ag (A9 rfl (Af rfl) (Af rfl)) fun x22=>Ac<|Aa.cond (Af rfl) (Aa.skip<|Ai<|AD<|Ad<|Aj (AB (Af rfl))<|Ap (A1 (t:=Az) (u:=(T.sl Ax)) (Af rfl) rfl rfl Bw rfl rfl) fun x23=>Ab rfl<|Aa.op (F7 rfl (Af rfl) (Af rfl)) fun x24=>Ap (Is rfl rfl (Af rfl)) fun x25=>Aj (AB (Af rfl))<|Ap (A1 (t:=Az) (u:=(T.sl Ax)) (Af rfl) rfl rfl Bw rfl rfl) fun x26=>Ab rfl<|Aa.op (F7 rfl (Af rfl) (Af rfl)) fun x27=>Ap (Is rfl rfl (Af rfl)) fun x28=>Aa.op (AF TG (.cons (Af rfl)<| .one (Af rfl))) fun x29=>Ag (EJ (Af rfl)) fun x30=>Ac<|Aa.cond (Af rfl) (Ad<|Aj (A3 G8)<|Ac<|By<|Aa.ret (.one (AE rfl))) (Aa.skip<|AN<|Ac<|Ab rfl<|Ag (BJ (I:=(IT.int .i64)) (Af rfl) AY) fun x31=>Ab rfl<|Aa.next x31 sB)) (Bh<|BD () sB)) (fun p19=>Bi<|Ai<|Aj (A3 G8)<|Ac<|Aa.ret (.one (AE rfl))))
theorem bG:Spec tb Ia [Az,Az] [T.b] (fun a=>QQ a.1 a.2):=
 Spec.of jG rfl rfl rfl Zf
noncomputable def JK(a0:Be)(a1:Be):Option Bool:=(K4 a0).bind fun x2=>(HO x2 ((K4 a1).bind fun x4=>some x4)).bind fun x5=>(HO x5 ((Ml a0).bind fun x7=>some (!x7))).bind fun x9=>(HO x9 ((Ml a1).bind fun x11=>some (!x11))).bind fun x13=>if x13=true then (Ms ()).bind fun x14=>some x14 else (F8 a0).bind fun x16=>(F8 a1).bind fun x20=>(QQ a0 a1).bind fun x26=>(De (decide (decide (x16.1=x20.1)=x26)) ((Ms ()).bind fun x28=>some x28)).bind fun x29=>some x29
noncomputable def Pn(a:Ce [Az,Az]):BS tb G1 [Az,Az] [T.b] a:=Ad<|Al (Bt (t:=Az) 2 rfl rfl (Af rfl)) fun _=>Al (Bt (t:=Az) 3 rfl rfl (Af rfl)) fun _=>Aj (A3 G8)<|Ai<|Ad<|Ap (A1 (t:=Az) (u:=Az) (Af rfl) rfl rfl (Ay _) rfl rfl) fun x1=>Aa.op (AF Q3 (.one (Af rfl))) fun x2=>Ab rfl<|Aa.or 2 rfl rfl rfl (Bk (A1 (t:=Az) (u:=Az) (Af rfl) rfl rfl (Ay _) rfl rfl) fun x3=>Bl.op (AF Q3 (.one (Af rfl))) fun x4=>Bl.nil (Af rfl)) fun x5=>Ab rfl<|Aa.or 3 rfl rfl rfl (Bk (A1 (t:=Az) (u:=Az) (Af rfl) rfl rfl (Ay _) rfl rfl) fun x6=>Bl.op (AF Q2 (.one (Af rfl))) fun x7=>Bf (EJ (Af rfl)) fun x8=>Bl.nil (Af rfl)) fun x9=>Ab rfl<|Aa.or 3 rfl rfl rfl (Bk (A1 (t:=Az) (u:=Az) (Af rfl) rfl rfl (Ay _) rfl rfl) fun x10=>Bl.op (AF Q2 (.one (Af rfl))) fun x11=>Bf (EJ (Af rfl)) fun x12=>Bl.nil (Af rfl)) fun x13=>Ac<|Aa.cond (Af rfl) (Ad<|Aa.op (AF Q5 (.nil)) fun x14=>Ab rfl<|Ac<|Aa.ret (.one (AE rfl))) (Aa.skip<|Ai<|Ap (A1 (t:=Az) (u:=Az) (Af rfl) rfl rfl (Ay _) rfl rfl) fun x15=>Aa.op (Jg KI (.one (Af rfl))) fun x16=>Ab rfl<|Ap (Cp (Af rfl) rfl) fun x17=>Ap (Cp (Af rfl) rfl) fun x18=>Ab rfl<|Ab rfl<|Ai<|Ap (A1 (t:=Az) (u:=Az) (Af rfl) rfl rfl (Ay _) rfl rfl) fun x19=>Aa.op (Jg KI (.one (Af rfl))) fun x20=>Ab rfl<|Ap (Cp (Af rfl) rfl) fun x21=>Ap (Cp (Af rfl) rfl) fun x22=>Ab rfl<|Ab rfl<|Ai<|Ab rfl<|Ab rfl<|Ag (S9 (Af rfl) (Af rfl)) fun x23=>Ap (A1 (t:=Az) (u:=Az) (Af rfl) rfl rfl (Ay _) rfl rfl) fun x24=>Ap (A1 (t:=Az) (u:=Az) (Af rfl) rfl rfl (Ay _) rfl rfl) fun x25=>Aa.op (AF bG (.cons (Af rfl)<| .one (Af rfl))) fun x26=>
 Ag (h_eqb (neg:=false) (Af rfl) (Af rfl)) fun x27=>Ab rfl<|Aa.and 1 rfl rfl rfl (Bl.op (AF Q5 (.nil)) fun x28=>Bl.nil (Af rfl)) fun x29=>Ab rfl<|Ac<|Aa.ret (.one (AE rfl)))
theorem PM:Spec tb D6 [Az,Az] [T.b] (fun a=>JK a.1 a.2):=
 Spec.of Rr rfl rfl rfl Pn
end Go.Proofs.YtobejhpigbllpaaGreatDoor.Am
end

namespace Go.Proofs.YtobejhpigbllpaaGreatDoor.Am
theorem Pz{x:Int}(h0: -9223372036854775808≤x)(h1:x<9223372036854775808):IntKind.i64.wrap x=x:=XG h0 h1
theorem Ri{n k:Nat}(h:n<k):Ft k (n:Int)=some n:=Gi h
theorem bO{β ρ:Type}{k n:Nat}{F:Int→Option (Int⊕(Unit⊕β))}{K:Unit⊕β→Option ρ}(q:Nat→Option β)(hk:k≤n)(hn:n<4611686018427387904)(h1: ∀i:Nat,k≤i→i<n→F (i:Int)=some (match q i with|none=> .inl (IntKind.i64.wrap ((i:Int)+1))|some b=> .inr (.inr b)))
  (h2:F (n:Int)=some (.inr (.inl ()))):(iter F (k:Int)).bind K=(match(List.range' k (n-k)).findSome? q with|none=>K (.inl ())|some b=>K (.inr b)):=by
 refine CM (fun s=>n-s.toNat) (fun s=> ∃i:Nat,s=i∧k≤i∧i≤n∧ ∀j,k≤j→j<i→q j=none)
  (fun r=>(r= .inl ()∧ ∀j,k≤j→j<n→q j=none)∨ ∃b,r= .inr b∧(List.range' k (n-k)).findSome? q=some b) ⟨k,rfl,Nat.le_refl _,hk,by omega⟩ ?_ ?_
 ·rintro s ⟨i,rfl,hki,hi,hq⟩
  rcases Nat.lt_or_ge i n with hlt|hge
  ·rw[h1 i hki hlt]
   cases e:q i with
   |none=>
    left
    refine⟨_,rfl,⟨i+1,?_,by omega,by omega,fun j hj1 hj=> ?_⟩,?_⟩
    ·rw[show(i:Int)+1=((i+1:Nat):Int) by omega,Ca (by omega)]
    ·rcases Nat.lt_or_ge j i with h|h
     ·exact hq j hj1 h
     ·obtain rfl:j=i:=by omega
      exact e
    ·rw[show(i:Int)+1=((i+1:Nat):Int) by omega,Ca (by omega)];omega
   |some b=>
    right
    refine⟨_,rfl, .inr ⟨b,rfl,?_⟩⟩
    have:List.range' k (n-k)=List.range' k (i-k)++i::List.range' (i+1) (n-(i+1)):=by
     rw[show n-k=(i-k)+(1+(n-(i+1))) by omega,←List.range'_append_1,←List.range'_append_1]
     simp only[List.range'_one,List.singleton_append,List.append_cancel_left_eq]
     rw[show k+(i-k)=i by omega]
    rw[this,List.findSome?_append,List.findSome?_eq_none_iff.2 (fun j hj=>by
     rw[List.mem_range'_1]at hj;exact hq j hj.1 (by omega))]
    simp[e]
  ·obtain rfl:i=n:=by omega
   right
   exact⟨_,h2, .inl ⟨rfl,hq⟩⟩
 ·rintro _ (⟨rfl,h⟩|⟨b,rfl,h⟩)
  ·rw[List.findSome?_eq_none_iff.2 (fun j hj=>by rw[List.mem_range'_1]at hj;exact h j hj.1 (by omega))]
  ·rw[h]
theorem zY(x y:A4):G7 E1 x y=decide (x=y):=
 if h:x=y then(JC (t:=Ak) h).trans (decide_eq_true h).symm else(UC (t:=Ak) h).trans (decide_eq_false h).symm
theorem cmpE(x y:AA):G7 Du x y=decide (x=y):=
 if h:x=y then(JC (t:=Aq) h).trans (decide_eq_true h).symm else(UC (t:=Aq) h).trans (decide_eq_false h).symm
theorem fV(x y:Ao):G7 Db x y=decide (x=y):=
 if h:x=y then(JC (t:=Ah) h).trans (decide_eq_true h).symm else(UC (t:=Ah) h).trans (decide_eq_false h).symm
def Dl(a:A4):Bool:=decide (a.V=6∨(a.V=4∧a.B.l.drop 4=List.replicate 12 0))
theorem uO(b0 b1 b2 b3:UInt8)(h:[b0,b1,b2,b3].length=4):MB ⟨[b0,b1,b2,b3],h⟩=some ⟨4,⟨[b0,b1,b2,b3,0,0,0,0,0,0,0,0,0,0,0,0],rfl⟩⟩:=by
 unfold MB
 rfl
theorem oQ(b0 b1 b2 b3 b4 b5 b6 b7 b8 b9 b10 b11 b12 b13 b14 b15:UInt8)(h:(([b0,b1,b2,b3,b4,b5,b6,b7,b8,b9,b10,b11,b12,b13,b14,b15].drop 0).take 4).length=4):
  MB ⟨([b0,b1,b2,b3,b4,b5,b6,b7,b8,b9,b10,b11,b12,b13,b14,b15].drop 0).take 4,h⟩=some ⟨4,⟨[b0,b1,b2,b3,0,0,0,0,0,0,0,0,0,0,0,0],rfl⟩⟩:=uO b0 b1 b2 b3 rfl
theorem zZ{p:A4→Prop}(h: ∀(V:Int) (b0 b1 b2 b3 b4 b5 b6 b7 b8 b9 b10 b11 b12 b13 b14 b15:UInt8),p ⟨V,⟨[b0,b1,b2,b3,b4,b5,b6,b7,b8,b9,b10,b11,b12,b13,b14,b15],rfl⟩⟩): ∀a,p a:=by
 rintro⟨V,⟨l,hl⟩⟩
 match l,hl with
 |[b0,b1,b2,b3,b4,b5,b6,b7,b8,b9,b10,b11,b12,b13,b14,b15],_=>exact h V b0 b1 b2 b3 b4 b5 b6 b7 b8 b9 b10 b11 b12 b13 b14 b15
theorem KW(a:A4):GJ a=some (Dl a):=by
 revert a
 refine zZ fun V b0 b1 b2 b3 b4 b5 b6 b7 b8 b9 b10 b11 b12 b13 b14 b15=> ?_
 unfold GJ
 by_cases h6:V=6
 ·simp[h6,HO,Dl]
 ·by_cases hv:V=4
  ·subst hv
   have e4:((4:Int)=6)=False:=by simp
   simp only[HO,De,e4,decide_false,Bool.false_eq_true,if_false,decide_true,if_true,oQ,Option.bind_some,zY,Dl]
   congr 1
   simp[A4.mk.injEq,Ar.mk.injEq,List.replicate]
  ·simp[h6,hv,HO,De,Dl]
theorem Ys(B:Ar UInt8 16){i:Nat}(h:i<16): ∃b,B.l[i]? =some b:=⟨B.l[i]'(by rw[B.len];exact h),List.getElem?_eq_getElem _⟩
theorem OM(a:A4):IR a=some (Dl a):=by
 unfold IR
 by_cases h6:a.V=6
 ·simp[h6,Dl]
 ·rw[if_neg (by simpa using h6)]
  rw[show(4:Int)=((4:Nat):Int)from rfl,bO (n:=16) (fun i=>if a.B.l[i]? =some 0 then none else some false) (by decide) (by decide)]
  ·cases e:(List.range' 4 (16-4)).findSome? (fun i=>if a.B.l[i]? =some 0 then none else some false)with
   |none=>
    simp only[Sum.elim_inl]
    have hz:a.B.l.drop 4=List.replicate 12 0:=by
     apply List.ext_getElem?
     intro i
     rw[List.getElem?_drop]
     rcases Nat.lt_or_ge i 12 with hi|hi
     ·have:=List.findSome?_eq_none_iff.1 e (4+i) (by rw[List.mem_range'_1];omega)
      rw[List.getElem?_replicate,if_pos hi]
      by_cases h:a.B.l[4+i]? =some 0
      ·exact h
      ·simp[h]at this
     ·rw[List.getElem?_eq_none (by rw[a.B.len];omega),List.getElem?_eq_none (by simp;omega)]
    simp[Dl,h6,hz]
   |some b=>
    obtain⟨i,hi,h'⟩:=List.exists_of_findSome?_eq_some e
    rw[List.mem_range'_1]at hi
    have hb:b=false:=by split at h'<;>simp_all
    subst hb
    simp only[Sum.elim_inr]
    have: ¬a.B.l.drop 4=List.replicate 12 0:=fun hz=>by
     have h:=congrArg (fun l=>l[i-4]?) hz
     simp only[List.getElem?_drop,List.getElem?_replicate]at h
     rw[show 4+(i-4)=i by omega,if_pos (by omega)]at h
     rw[h]at h';simp at h'
    have hr:Dl a=false:=decide_eq_false (by
     rintro(h|⟨_,h⟩)
     ·exact h6 h
     ·exact this h)
    rw[hr]
  ·intro i h4 hi
   obtain⟨b,hb⟩:=Ys a.B hi
   rw[if_pos (by simp;omega),Ri hi,Option.bind_some,hb]
   simp only[Option.bind_some,Option.some.injEq]
   have e0:((b.toNat:Int)=((0:UInt8).toNat:Int))↔b=0:=by
    constructor
    ·intro h;exact UInt8.toNat_inj.1 (by exact_mod_cast h)
    ·rintro rfl;rfl
   by_cases h:b=0
   ·simp[h]
   ·simp only[e0,h,decide_false,Bool.not_false,if_true,if_false];rfl
  ·rw[if_neg (by decide)]
def Dk(a:A4):Nat:=if Dl a=true then(if a.V=4 then 32 else 128)else 0
theorem W8(a:A4):KX a=some (Dk a:Int):=by
 unfold KX Dk
 rw[KW]
 cases Dl a with
 |false=>simp
 |true=>by_cases h:a.V=4<;>simp[h]
theorem XT(a:A4):Mo a=some (Dk a:Int):=by
 unfold Mo Dk
 rw[OM]
 cases Dl a with
 |false=>simp
 |true=>by_cases h:a.V=4<;>simp[h]
def Ow(b:UInt8)(k:Nat):UInt8:=UInt8.ofNat (b.toNat/2^(8-k)*2^(8-k))
def Lm(l:List UInt8)(n:Nat):List UInt8:=l.mapIdx fun i b=>Ow b (min (n-8*i) 8)
theorem Mq(l:List UInt8)(n:Nat):(Lm l n).length=l.length:=by simp[Lm]
theorem Mr(l:List UInt8)(n i:Nat):(Lm l n)[i]? =l[i]?.map fun b=>Ow b (min (n-8*i) 8):=by simp[Lm,List.getElem?_mapIdx]
def shlN(k:Nat):UInt8:=Ps (((255:UInt8).toNat:Int)*2^(min k 8))
def andN(b k:Nat):UInt8:=Ps (JE .and .u8 (b:Int) ((shlN k).toNat:Int))
theorem vT: ∀(b:Fin 256) (k:Fin 9),andN b.1 (8-k.1)=Ow (UInt8.ofNat b.1) k.1:=by decide+kernel
def addN(x:UInt8)(n:Nat):UInt8:=Ps ((x.toNat:Int)+((Ps (n:Int)).toNat:Int))
theorem nX: ∀(b:Fin 256) (r:Fin 8),Ow (UInt8.ofNat b.1) (r.1+1)=(if b.1/2^(7-r.1)%2=1 then addN (Ow (UInt8.ofNat b.1) r.1) (128/2^r.1)else Ow (UInt8.ofNat b.1) r.1):=by decide+kernel
theorem nY(b:UInt8):Ow b 0=0:=by
 have:=b.toNat_lt
 unfold Ow
 rw[show b.toNat/2^(8-0)=0 by rw[Nat.div_eq_of_lt];simpa using this];simp
theorem GA(b:UInt8):UInt8.ofNat b.toNat=b:=by simp
theorem gN{m:Nat}(h:m<18446744073709551616):(Co (m:Int)).toNat=m:=by
 unfold Co
 rw[show((m:Int)%18446744073709551616).toNat=m by omega]
 simp[UInt64.toNat_ofNat,h]
theorem pL(a:A4)(n:Nat)(hn:n≤1000)(hr:Dl a=true):Pe a (n:Int)=some ⟨a.V,⟨Lm a.B.l n,by rw[Mq,a.B.len]⟩⟩:=by
 unfold Pe
 simp only[KW,hr,Option.bind_some,Bool.not_true,Bool.false_eq_true,if_false]
 refine CM (fun s=>16-s.1.toNat) (fun s=> ∃i:Nat,s.1=i∧i≤16∧s.2.V=a.V∧ ∀j:Nat,s.2.B.l[j]? =if j<i then(Lm a.B.l n)[j]? else a.B.l[j]?)
  (fun r=>r= .inl ⟨a.V,⟨Lm a.B.l n,by rw[Mq,a.B.len]⟩⟩) ⟨0,rfl,by omega,rfl,fun j=>by simp⟩ ?_ ?_
 rotate_left
 ·rintro _ rfl;rfl
 ·rintro⟨s,⟨V,B⟩⟩ ⟨i,rfl,h1,h2,h3⟩
  dsimp only at h2 h3 ⊢
  subst h2
  by_cases hi:i<16
  ·left
   obtain⟨b,hb⟩:=Ys a.B hi
   have hBi:B.l[i]? =some b:=by rw[h3,if_neg (by omega)];exact hb
   rw[if_pos (by simp;omega)]
   have hw:IntKind.i64.wrap ((n:Int)-IntKind.i64.wrap (8*(i:Int)))=(n:Int)-8*(i:Int):=by rw[Pz (x:=8*(i:Int)) (by omega) (by omega),Pz (by omega) (by omega)]
   have hx:(if 8<(if(0:Int)>(n:Int)-8*(i:Int)then 0 else(n:Int)-8*(i:Int))then 8 else(if(0:Int)>(n:Int)-8*(i:Int)then 0 else(n:Int)-8*(i:Int)))=((min (n-8*i) 8:Nat):Int):=by
    split<;>split<;>omega
   have hk:min (n-8*i) 8<9:=by omega
   have h8:IntKind.i64.wrap (8-((min (n-8*i) 8:Nat):Int))=((8-min (n-8*i) 8:Nat):Int):=by rw[Pz (by omega) (by omega)];omega
   have h9:(Co (((8-min (n-8*i) 8:Nat):Int))).toNat=8-min (n-8*i) 8:=gN (by omega)
   have hm:=vT ⟨b.toNat,b.toNat_lt⟩ ⟨min (n-8*i) 8,hk⟩
   simp only[andN,shlN,GA]at hm
   simp only[hw,hx]
   rw[if_neg (show¬decide ((n:Int)<0)=true by simp)]
   simp only[Option.bind_some,Sum.elim_inl,Ri hi,hBi,h8,h9]
   rw[if_neg (by omega)]
   simp only[Option.bind_some,Int.toNat_natCast,if_pos hi]
   refine⟨_,rfl,⟨i+1,by dsimp only;rw[Pz (by omega) (by omega)];omega,by omega,rfl,fun j=> ?_⟩,by dsimp only;rw[Pz (by omega) (by omega)];omega⟩
   dsimp only[Ar.set]
   rw[List.getElem?_set]
   by_cases hj:i=j
   ·subst hj
    rw[if_pos rfl,if_pos (by rw[B.len];exact hi),if_pos (by omega),Mr,hb,Option.map_some]
    exact congrArg some hm
   ·rw[if_neg hj,h3]
    by_cases hji:j<i
    ·rw[if_pos hji,if_pos (by omega)]
    ·rw[if_neg hji,if_neg (by omega)]
  ·obtain rfl:i=16:=by omega
   right
   rw[if_neg (by simp)]
   refine⟨_,rfl,?_⟩
   congr 2
   apply Ar.ext
   apply List.ext_getElem?
   intro j
   dsimp only
   rw[h3]
   by_cases hj:j<16
   ·rw[if_pos hj]
   ·rw[if_neg hj,List.getElem?_eq_none (by rw[a.B.len];omega),List.getElem?_eq_none (by rw[Mq,a.B.len];omega)]
theorem td8{i:Nat}(h:i<1000):(if(8:Nat)=0 then none else some (IntKind.i64.wrap (Int.tdiv (i:Int) 8)))=some ((i/8:Nat):Int):=by
 rw[if_neg (by decide),show(8:Int)=((8:Nat):Int)from rfl,←Int.ofNat_tdiv,Ca (by omega)]
theorem tm8{i:Nat}:(if(8:Nat)=0 then none else some (Int.tmod (i:Int) 8))=some ((i%8:Nat):Int):=by
 rw[if_neg (by decide),show(8:Int)=((8:Nat):Int)from rfl,←Int.ofNat_tmod]
theorem td2{i:Nat}(h:i<1000):(if(2:Nat)=0 then none else some (IntKind.i64.wrap (Int.tdiv (i:Int) 2)))=some ((i/2:Nat):Int):=by
 rw[if_neg (by decide),show(2:Int)=((2:Nat):Int)from rfl,←Int.ofNat_tdiv,Ca (by omega)]
theorem tm2{i:Nat}:(if(2:Nat)=0 then none else some (Int.tmod (i:Int) 2))=some ((i%2:Nat):Int):=by
 rw[if_neg (by decide),show(2:Int)=((2:Nat):Int)from rfl,←Int.ofNat_tmod]
theorem Xl(a:A4)(i:Nat)(hi:i<128)(b:UInt8)(hb:a.B.l[i/8]? =some b):ON a (i:Int)=some ((b.toNat/2^(7-i%8)%2:Nat):Int):=by
 have hbl:=b.toNat_lt
 unfold ON
 rw[td8 (by omega)]
 simp only[Option.bind_some,Ri (show i/8<16 by omega),hb]
 refine CM (fun s=>s.2.toNat) (fun s=> ∃m:Nat,m≤7-i%8∧s.1=((b.toNat/2^m:Nat):Int)∧s.2=((7-m:Nat):Int)) (fun r=>r= .inl ((b.toNat/2^(7-i%8):Nat):Int)) ⟨0,by omega,by rw[Ca (by omega)];simp,rfl⟩ ?_ ?_
 ·rintro⟨s,k⟩ ⟨m,h1,h2,h3⟩
  dsimp only at h2 h3 ⊢
  subst h2 h3
  have hle:b.toNat/2^m≤b.toNat:=Nat.div_le_self _ _
  rw[tm8]
  simp only[Option.bind_some]
  by_cases hm:m<7-i%8
  ·left
   rw[if_pos (by rw[decide_eq_true_eq];omega),td2 (by omega)]
   simp only[Option.bind_some]
   refine⟨_,rfl,⟨m+1,by omega,?_,?_⟩,?_⟩
   ·dsimp only;rw[Nat.div_div_eq_div_mul,←Nat.pow_succ]
   ·dsimp only;rw[Pz (by omega) (by omega)];omega
   ·dsimp only;rw[Pz (by omega) (by omega)];omega
  ·right
   obtain rfl:m=7-i%8:=by omega
   rw[if_neg (by rw[decide_eq_true_eq];omega)]
   exact⟨_,rfl,rfl⟩
 ·rintro _ rfl
  simp only[Sum.elim_inl,tm2,Option.bind_some]
theorem yG{β γ:Type}{r:Nat}(hr:r<8){K:(Int⊕β)→Option γ}{F:Int×Int→Option ((Int×Int)⊕(Int⊕β))}(hF: ∀m k:Nat,m<1000→k≤8→F ((m:Int),(k:Int))=if k<r then some (.inl (((m/2:Nat):Int),((k+1:Nat):Int)))else some (.inr (.inl (m:Int)))):
  (iter F (128,0)).bind K=K (.inl ((128/2^r:Nat):Int)):=by
 refine CM (fun s=>8-s.2.toNat) (fun s=> ∃k:Nat,k≤r∧s.1=((128/2^k:Nat):Int)∧s.2=(k:Int)) (fun q=>q= .inl ((128/2^r:Nat):Int)) ⟨0,by omega,rfl,rfl⟩ ?_ ?_
 ·rintro⟨s,k⟩ ⟨m,h1,h2,h3⟩
  dsimp only at h2 h3 ⊢
  subst h2 h3
  have hle:128/2^m≤128:=Nat.div_le_self _ _
  rw[hF _ _ (by omega) (by omega)]
  by_cases hm:m<r
  ·left
   rw[if_pos hm]
   refine⟨_,rfl,⟨m+1,by omega,?_,rfl⟩,by dsimp only;omega⟩
   dsimp only;rw[Nat.div_div_eq_div_mul,←Nat.pow_succ]
  ·right
   obtain rfl:m=r:=by omega
   rw[if_neg (by omega)]
   exact⟨_,rfl,rfl⟩
 ·rintro _ rfl;rfl
theorem qX(a:A4)(n:Nat)(hn:n≤Dk a)(hr:Dl a=true):QS a (n:Int)=some ⟨a.V,⟨Lm a.B.l n,by rw[Mq,a.B.len]⟩⟩:=by
 have hw:Dk a≤128:=by unfold Dk;split<;>(try split)<;>omega
 unfold QS
 simp only[OM,XT,hr,Option.bind_some,Bool.not_true,Bool.false_eq_true,if_false]
 refine CM (fun s=>128-s.1.toNat) (fun s=> ∃i:Nat,s.1=i∧i≤n∧s.2.V=a.V∧s.2.B.l=Lm a.B.l i)
  (fun r=>r= .inl ⟨a.V,⟨Lm a.B.l n,by rw[Mq,a.B.len]⟩⟩) ⟨0,rfl,by omega,rfl,?_⟩ ?_ ?_
 ·apply List.ext_getElem?
  intro j
  rw[Mr]
  show(List.replicate 16 (0:UInt8))[j]? =_
  rw[List.getElem?_replicate]
  by_cases hj:j<16
  ·obtain⟨b,hb⟩:=Ys a.B hj
   rw[if_pos hj,hb,Option.map_some,show min (0-8*j) 8=0 by omega,nY]
  ·rw[if_neg hj,List.getElem?_eq_none (by rw[a.B.len];omega)];rfl
 ·rintro⟨s,⟨V,B⟩⟩ ⟨i,rfl,h1,h2,h3⟩
  dsimp only at h2 h3 ⊢
  subst h2
  by_cases hi:i<n
  ·left
   obtain⟨b,hb⟩:=Ys a.B (show i/8<16 by omega)
   have ht:De (decide ((i:Int)<(Dk a:Int))) (some (decide ((i:Int)<(n:Int))))=some true:=by
    rw[decide_eq_true (by omega),decide_eq_true (by omega)];rfl
   have hBb:B.l[i/8]? =some (Ow b (i%8)):=by
    rw[h3,Mr,hb,Option.map_some,show min (i-8*(i/8)) 8=i%8 by omega]
   have hstep:=nX ⟨b.toNat,b.toNat_lt⟩ ⟨i%8,by omega⟩
   simp only[addN,GA]at hstep
   have hnext: ∀(c:UInt8),c=Ow b (i%8+1)→B.l.set (i/8) c=Lm a.B.l (i+1):=by
    rintro c rfl
    apply List.ext_getElem?
    intro j
    rw[List.getElem?_set,Mr]
    by_cases hj:i/8=j
    ·subst hj
     rw[if_pos rfl,if_pos (by rw[B.len];omega),hb,Option.map_some,show min (i+1-8*(i/8)) 8=i%8+1 by omega]
    ·rw[if_neg hj,h3,Mr,show min (i+1-8*j) 8=min (i-8*j) 8 by omega]
   have hwi:IntKind.i64.wrap ((i:Int)+1)=((i+1:Nat):Int):=by rw[Pz (by omega) (by omega)];omega
   simp only[ht,Option.bind_some,if_true,Xl a i (by omega) b hb]
   by_cases hd:b.toNat/2^(7-i%8)%2=1
   ·rw[if_pos hd]at hstep
    rw[if_pos (by rw[decide_eq_true_eq];omega)]
    rw[yG (r:=i%8) (by omega) (fun m k hm hk=>by
     rw[tm8]
     simp only[Option.bind_some]
     by_cases hkr:k<i%8
     ·rw[if_pos (by rw[decide_eq_true_eq];omega),if_pos hkr,td2 (by omega)]
      simp only[Option.bind_some]
      rw[Pz (by omega) (by omega)];rfl
     ·rw[if_neg (by rw[decide_eq_true_eq];omega),if_neg hkr])]
    simp only[Sum.elim_inl,td8 (show i<1000 by omega),Option.bind_some,Ri (show i/8<16 by omega),hBb,if_pos (show i/8<16 by omega),hwi]
    refine⟨_,rfl,⟨i+1,rfl,by omega,rfl,?_⟩,by dsimp only;omega⟩
    exact hnext _ hstep.symm
   ·rw[if_neg hd]at hstep
    rw[if_neg (by rw[decide_eq_true_eq];omega),hwi]
    refine⟨_,rfl,⟨i+1,rfl,by omega,rfl,?_⟩,by dsimp only;omega⟩
    dsimp only
    rw[←hnext (Ow b (i%8)) hstep.symm]
    exact(List.ext_getElem? fun j=>by
     rw[List.getElem?_set]
     by_cases hj:i/8=j
     ·subst hj;rw[if_pos rfl,if_pos (by rw[B.len];omega),hBb]
     ·rw[if_neg hj])
  ·obtain rfl:i=n:=by omega
   right
   have ht:De (decide ((i:Int)<(Dk a:Int))) (some (decide ((i:Int)<(i:Int))))=some false:=by
    rw[decide_eq_false (show¬(i:Int)<(i:Int) by omega)]
    cases decide ((i:Int)<(Dk a:Int))<;>rfl
   simp only[ht,Option.bind_some,Bool.false_eq_true,if_false]
   refine⟨_,rfl,?_⟩
   congr 2
   exact Ar.ext h3
 ·rintro _ rfl;rfl
def Gw(p:Ao):Bool:=Dl p.A&&(decide (0≤p.Bits∧p.Bits≤(Dk p.A:Int))&&decide (Lm p.A.B.l p.Bits.toNat=p.A.B.l))
theorem Qy(a:A4):Dk a≤128:=by unfold Dk;split<;>(try split)<;>omega
theorem Nq(p:Ao):HR p=some (Gw p):=by
 obtain⟨a,n⟩:=p
 have hw:=Qy a
 unfold HR aF
 simp only[KW,W8,Option.bind_some,Gw]
 cases hr:Dl a with
 |false=>simp[De]
 |true=>
  simp only[Bool.not_true,Bool.false_eq_true,if_false,Bool.true_and]
  by_cases h0:n<0
  ·have:HO (decide (n<0)) (some (decide ((Dk a:Int)<n)))=some true:=by rw[decide_eq_true h0];rfl
   have hf:decide (0≤n∧n≤(Dk a:Int))=false:=decide_eq_false (by omega)
   simp[this,hf,De]
  ·by_cases h1:(Dk a:Int)<n
   ·have:HO (decide (n<0)) (some (decide ((Dk a:Int)<n)))=some true:=by rw[decide_eq_false h0,decide_eq_true h1];rfl
    have hf:decide (0≤n∧n≤(Dk a:Int))=false:=decide_eq_false (by omega)
    simp[this,hf,De]
   ·have:HO (decide (n<0)) (some (decide ((Dk a:Int)<n)))=some false:=by rw[decide_eq_false h0,decide_eq_false h1];rfl
    have hf:decide (0≤n∧n≤(Dk a:Int))=true:=decide_eq_true (by omega)
    obtain⟨m,rfl⟩: ∃m:Nat,n=m:=⟨n.toNat,by omega⟩
    simp only[this,hf,Option.bind_some,Bool.false_eq_true,if_false,pL a m (by omega) hr,decide_true,De,if_true,fV,Bool.true_and,Int.toNat_natCast]
    congr 1
    rw[decide_eq_decide]
    constructor
    ·intro e
     have:=congrArg (fun x:Ao=>x.A.B.l) e
     exact this
    ·intro e
     obtain⟨V,B⟩:=a
     congr 2
     exact Ar.ext e
theorem OL(p:Ao):K5 p=some (Gw p):=by
 obtain⟨a,n⟩:=p
 have hw:=Qy a
 unfold K5
 simp only[OM,XT,Option.bind_some,Gw]
 cases hr:Dl a with
 |false=>simp[HO]
 |true=>
  simp only[Bool.not_true,Bool.true_and]
  by_cases h0:n<0
  ·have hf:decide (0≤n∧n≤(Dk a:Int))=false:=decide_eq_false (by omega)
   simp[HO,hf,h0]
  ·by_cases h1:(Dk a:Int)<n
   ·have hf:decide (0≤n∧n≤(Dk a:Int))=false:=decide_eq_false (by omega)
    simp[HO,hf,h0,h1]
   ·have hf:decide (0≤n∧n≤(Dk a:Int))=true:=decide_eq_true (by omega)
    obtain⟨m,rfl⟩: ∃m:Nat,n=m:=⟨n.toNat,by omega⟩
    simp only[HO,Bool.false_eq_true,if_false,Option.bind_some,decide_eq_false h0,decide_eq_false h1,hf,qX a m (by omega) hr,zY,Bool.true_and,Int.toNat_natCast]
    congr 1
    rw[decide_eq_decide]
    constructor
    ·intro e
     exact(congrArg (fun x:A4=>x.B.l) e).symm
    ·intro e
     obtain⟨V,B⟩:=a
     congr 1
     exact(Ar.ext e).symm
def PA(a b:List UInt8)(i:Nat):Option Bool:=if a[i]? =b[i]? then none else some (decide (((a[i]?).getD 0).toNat<((b[i]?).getD 0).toNat))
def kZ(a b:List UInt8):Bool:=((List.range' 0 16).findSome? (PA a b)).getD false
def cT(a b:A4):Bool:=if a.V=b.V then kZ a.B.l b.B.l else decide (a.V<b.V)
theorem Yx{p:Nat→Bool}{q:Nat→Option Bool}: ∀{l:List Nat},(∀i∈l,(q i).isSome=p i)→l.findSome? q=(l.find? p).bind q
 |[],_=>rfl
 |x::l,h=>by
  have hx:=h x (by simp)
  rw[List.findSome?_cons,List.find?_cons]
  cases hq:q x with
  |none=>rw[hq]at hx;simp only[Option.isSome_none]at hx;rw[←hx];exact Yx fun i hi=>h i (by simp[hi])
  |some b=>rw[hq]at hx;simp only[Option.isSome_some]at hx;rw[←hx];simp[hq]
theorem vC(a b:List UInt8)(ha:a.length=16)(hb:b.length=16):decide (Wq a b<0)=kZ a b:=by
 unfold Wq Extern.BytealgCompare.cmp kZ
 have hga: ∀i,i<16→(⟨a.toArray⟩:ByteArray)[i]! =(a[i]?).getD 0:=fun i hi=>by
  rw[getElem!_pos (⟨a.toArray⟩:ByteArray) i (by show i<a.toArray.size;simp[ha,hi]),List.getElem?_eq_getElem (show i<a.length by omega)]
  rfl
 have hgb: ∀i,i<16→(⟨b.toArray⟩:ByteArray)[i]! =(b[i]?).getD 0:=fun i hi=>by
  rw[getElem!_pos (⟨b.toArray⟩:ByteArray) i (by show i<b.toArray.size;simp[hb,hi]),List.getElem?_eq_getElem (show i<b.length by omega)]
  rfl
 have hsa:(⟨a.toArray⟩:ByteArray).size=16:=by simp[ByteArray.size,ha]
 have hsb:(⟨b.toArray⟩:ByteArray).size=16:=by simp[ByteArray.size,hb]
 rw[hsa,hsb,List.range_eq_range']
 have hfs:(List.range' 0 16).findSome? (PA a b)=((List.range' 0 16).find? fun i=>(⟨a.toArray⟩:ByteArray)[i]! != (⟨b.toArray⟩:ByteArray)[i]!).bind (PA a b):=by
  refine Yx fun i hi=> ?_
  rw[List.mem_range'_1]at hi
  rw[hga i (by omega),hgb i (by omega)]
  rw[List.getElem?_eq_getElem (show i<a.length by omega),List.getElem?_eq_getElem (show i<b.length by omega)]
  unfold PA
  rw[List.getElem?_eq_getElem (show i<a.length by omega),List.getElem?_eq_getElem (show i<b.length by omega)]
  by_cases e:a[i]=b[i]<;>simp[e]
 rw[hfs]
 simp only[Nat.min_self]
 cases e:(List.range' 0 16).find? fun i=>(⟨a.toArray⟩:ByteArray)[i]! != (⟨b.toArray⟩:ByteArray)[i]! with
 |none=>simp
 |some i=>
  have hi:=List.mem_of_find?_eq_some e
  rw[List.mem_range'_1]at hi
  have hne:=List.find?_some e
  rw[hga i (by omega),hgb i (by omega)]at hne
  have hq:PA a b i=some (decide (((a[i]?).getD 0).toNat<((b[i]?).getD 0).toNat)):=by
   unfold PA
   rw[if_neg]
   intro h
   rw[h]at hne
   simp at hne
  simp only[Option.bind_some,hq,Option.getD_some,hga i (by omega),hgb i (by omega)]
  by_cases h:(a[i]?).getD 0<(b[i]?).getD 0
  ·rw[if_pos h];simp[UInt8.lt_iff_toNat_lt.1 h]
  ·rw[if_neg h]
   have: ¬((a[i]?).getD 0).toNat<((b[i]?).getD 0).toNat:=fun g=>h (UInt8.lt_iff_toNat_lt.2 g)
   simp[this]
theorem pM(a b:A4):Pg a b=some (cT a b):=by
 unfold Pg cT
 by_cases h:a.V=b.V
 ·have h1:(a.B.l.drop 0).take 16=a.B.l:=List.take_of_length_le (by rw[List.drop_zero,a.B.len];exact Nat.le_refl _)
  have h2:(b.B.l.drop 0).take 16=b.B.l:=List.take_of_length_le (by rw[List.drop_zero,b.B.len];exact Nat.le_refl _)
  have hb:Jp (.mk a.B.l) (.mk b.B.l)=some (Wq a.B.l b.B.l):=by simp only[Jp,ER,Option.bind_some,E3]
  rw[h1,h2,hb]
  simp only[h,decide_true,Bool.not_true,Bool.false_eq_true,if_false,if_true,Nat.zero_add,Nat.le_refl,and_self,Option.bind_some]
  exact congrArg some (vC _ _ a.B.len b.B.len)
 ·simp[h]
theorem qY(a b:A4):QT a b=some (cT a b):=by
 unfold QT cT
 by_cases h:a.V=b.V
 ·simp only[h,decide_true,Bool.not_true,Bool.false_eq_true,if_false,if_true]
  rw[show(0:Int)=((0:Nat):Int)from rfl,bO (n:=16) (PA a.B.l b.B.l) (by decide) (by decide)]
  ·unfold kZ
   cases (List.range' 0 (16-0)).findSome? (PA a.B.l b.B.l)<;>rfl
  ·intro i _ hi
   obtain⟨x,hx⟩:=Ys a.B hi
   obtain⟨y,hy⟩:=Ys b.B hi
   rw[if_pos (by simp;omega)]
   have hq:PA a.B.l b.B.l i=if x=y then none else some (decide (x.toNat<y.toNat)):=by
    unfold PA;rw[hx,hy];simp
   simp only[Ri hi,Option.bind_some,hx,hy,hq]
   have e0:((x.toNat:Int)=(y.toNat:Int))↔x=y:=⟨fun h=>UInt8.toNat_inj.1 (by exact_mod_cast h),fun h=>by rw[h]⟩
   by_cases e:x=y
   ·simp[e]
   ·have e1:decide ((x.toNat:Int)<(y.toNat:Int))=decide (x.toNat<y.toNat):=by rw[decide_eq_decide];omega
    simp only[e0,e,decide_false,Bool.not_false,if_true,if_false,e1];rfl
  ·rw[if_neg (by simp)]
 ·simp[h]
def Tm(p q:Ao):Bool:=if p.A=q.A then decide (p.Bits<q.Bits)else cT p.A q.A
theorem pE(p q:Ao):M7 p q=some (Tm p q):=by
 unfold M7 Tm
 by_cases h:p.A=q.A<;>simp[zY,h,pM]
theorem bY(p q:Ao):Mn p q=some (Tm p q):=by
 unfold Mn Tm
 by_cases h:p.A=q.A<;>simp[zY,h,qY]
def Gx(e:AA):Bool:=Dl e.A&&(decide (1≤e.Port)&&decide (e.Port≤65535))
theorem Qk(e:AA):DK e=some (Gx e):=by
 unfold DK Gx
 rw[KW]
 cases Dl e.A<;>by_cases h1:1≤e.Port<;>simp[De,h1]
theorem nG(e:AA):Mm e=some (Gx e):=by
 unfold Mm Gx
 rw[OM]
 cases Dl e.A<;>by_cases h1:1≤e.Port<;>simp[De,h1]
theorem Ym(e:AA):ET e=some (decide (e=⟨Ak.z,0⟩)):=by
 unfold ET;rw[cmpE]
end Go.Proofs.YtobejhpigbllpaaGreatDoor.Am
namespace Go.Proofs.YtobejhpigbllpaaGreatDoor.Am
theorem Xw(l:AR)(c:UInt8):EG l c=some (Kb l c):=rfl
theorem Xm(l:AR)(c:UInt8)(hl:l.length<1073741824):OO l c=some (.mk (DG c l)):=by
 unfold OO
 refine CM (fun s=>l.length-s.2.1.toNat)
  (fun s=> ∃b j:Nat,s.1=b∧s.2.1=j∧b≤j∧j≤l.length∧(∀x∈(l.take j).drop b,x≠c)∧s.2.2.l.length≤b∧s.2.2.l++DG c (l.drop b)=DG c l)
  (fun r=> ∃b:Nat,∃g,r= .inl ((b:Int),g)∧b≤l.length∧g.l.length≤b∧g.l++[l.drop b]=DG c l) ⟨0,0,rfl,rfl,by omega,by omega,by simp,by simp,by simp⟩ ?_ ?_
 rotate_left
 ·rintro _ ⟨b,g,rfl,h1,h2,h3⟩
  simp only[Option.bind_some,Sum.elim_inl,XL h1]
  rw[K3 (by unfold BR;omega),h3,Option.bind_some]
 ·rintro⟨b',j',g⟩ ⟨b,j,rfl,rfl,h1,h2,h3,h4,h5⟩
  dsimp only at h4 h5 ⊢
  have hsplit:l.drop b=(l.take j).drop b++l.drop j:=by
   rw[←List.drop_append_of_le_length (by simp;omega),List.take_append_drop]
  by_cases hj:j<l.length
  ·rw[if_pos (by simpa using hj),Bu,List.getElem?_eq_getElem hj]
   simp only[Option.bind_some]
   have hdj:l.drop j=l[j]::l.drop (j+1):=List.drop_eq_getElem_cons hj
   rw[show(j:Int)+1=((j+1:Nat):Int) by omega,Ca (by omega)]
   left
   by_cases hx:l[j]=c
   ·rw[if_pos (by simp[hx]),qD h1 (by omega)]
    simp only[Option.bind_some]
    rw[K3 (by unfold BR;omega)]
    refine⟨_,rfl,⟨j+1,j+1,rfl,rfl,by omega,by omega,by simp,?_,?_⟩,by dsimp only;omega⟩
    ·simp only[E3,List.length_append,List.length_cons,List.length_nil];omega
    ·rw[hsplit,hdj,hx,MJ h3]at h5
     simpa using h5
   ·rw[if_neg (by simp only[decide_eq_true_eq];exact fun e=>hx (UInt8.toNat_inj.1 (by omega)))]
    refine⟨_,rfl,⟨b,j+1,rfl,rfl,by omega,by omega,?_,h4,h5⟩,by dsimp only;omega⟩
    intro x hxm
    rw[List.take_succ_eq_append_getElem hj,List.drop_append_of_le_length (by simp;omega)]at hxm
    rcases List.mem_append.1 hxm with h|h
    ·exact h3 x h
    ·rw[List.mem_singleton.1 h];exact hx
  ·rw[if_neg (by simpa using hj)]
   right
   refine⟨_,rfl,b,g,rfl,by omega,h4,?_⟩
   have:l.drop j=[]:=List.drop_eq_nil_of_le (by omega)
   rw[this,List.append_nil]at hsplit
   rw[hsplit,Oi h3]at h5
   rw[hsplit];exact h5
theorem VM(c:UInt8): ∀l:AR,Lib.index l [c]=Kb l c
 |[]=>rfl
 |x::l=>by
  have ih:=VM c l
  have hg:=Lib.index_ge l [c]
  unfold Lib.index
  by_cases h:x=c
  ·subst h
   simp[Kb,List.findIdx?_cons,List.isPrefixOf]
  ·have h': ¬c=x:=fun e=>h e.symm
   rw[if_neg (by simp[List.isPrefixOf,h'])]
   rw[ih]
   unfold Kb
   rw[List.findIdx?_cons]
   have hx:(x==c)=false:=by simpa using h
   rw[hx]
   cases e:l.findIdx? (fun y=>y==c)with
   |none=>simp
   |some i=>
    simp only[Option.map_some,Bool.false_eq_true,if_false]
    rw[if_neg (by simp)]
    simp
theorem oI(l:AR)(c:UInt8)(hl:l.length<1073741824):Je l [c]=some (Kb l c):=by
 unfold Je
 have:Dp l [c]=some (Kb l c):=by
  unfold Dp indexS
  rw[if_pos (by omega),VM]
 rw[this];rfl
end Go.Proofs.YtobejhpigbllpaaGreatDoor.Am
namespace Go.Proofs.YtobejhpigbllpaaGreatDoor.Am
def blk(c:UInt8):Bool:=c==32||c==9||c==13
end Go.Proofs.YtobejhpigbllpaaGreatDoor.Am
namespace Go.Proofs.YtobejhpigbllpaaGreatDoor.Am
theorem Zz{l:AR}{c:UInt8}(h:c∉l): ∀x∈l,x≠c:=fun x hx e=>h (e▸hx)
end Go.Proofs.YtobejhpigbllpaaGreatDoor.Am
namespace Go.Proofs.YtobejhpigbllpaaGreatDoor.Am
theorem dX(l:AR)(k:Nat)(h:k<l.length):(⟨l.toArray⟩:ByteArray).get! k=l[k]:=by
 show l.toArray[k]! =l[k]
 rw[getElem!_pos _ _ (by simpa using h)];simp
theorem PU(l:AR)(pos:Nat)(h:pos<l.length):(l[pos].toNat<128∧Et l pos=((l[pos].toNat:Int),1))∨
  (128≤l[pos].toNat∧128≤(Et l pos).1∧1≤(Et l pos).2∧ ∀j,j<(Et l pos).2→ ∃hj:pos+j<l.length,128≤(l[pos+j]).toNat):=by
 have hsz:(⟨l.toArray⟩:ByteArray).size=l.length:=by simp[ByteArray.size]
 have h0:=dX l pos h
 by_cases hb:l[pos].toNat<128
 ·left
  refine⟨hb,?_⟩
  simp only[Et,Utf8.decode,Nat.add_zero,h0,hb,if_true]
 ·right
  have hb':128≤l[pos].toNat:=by omega
  refine⟨hb',?_⟩
  have hd0: ∀j,j<1→ ∃hj:pos+j<l.length,128≤(l[pos+j]).toNat:=fun j hj=>by
   obtain rfl:j=0:=by omega
   exact⟨h,hb'⟩
  have hc: ∀k,(decide (pos+k<(⟨l.toArray⟩:ByteArray).size)&&((⟨l.toArray⟩:ByteArray).get! (pos+k)).toNat/64==2)=true→ ∃hj:pos+k<l.length,128≤(l[pos+k]).toNat:=fun k hk=>by
   simp only[Bool.and_eq_true,decide_eq_true_eq,beq_iff_eq,hsz]at hk
   refine⟨hk.1,?_⟩
   have:=hk.2
   rw[dX l _ hk.1]at this
   omega
  simp only[Et,Utf8.decode,Nat.add_zero,h0]
  rw[if_neg hb]
  have err:(128:Int)≤((Utf8.runeError:Nat):Int):=by simp[Utf8.runeError]
  split
  ·rename_i hx
   simp only[Bool.and_eq_true]at hx
   have h1:=hc 1 (by simpa using hx.2)
   split
   ·rename_i hy
    refine⟨by simp only;omega,by simp,fun j hj=> ?_⟩
    simp only at hj
    rcases(show j=0∨j=1 by omega)with rfl|rfl
    ·exact hd0 0 (by omega)
    ·exact h1
   ·exact⟨err,by simp,hd0⟩
  ·split
   ·rename_i hx
    simp only[Bool.and_eq_true]at hx
    have h1:=hc 1 (by simpa using hx.1.2)
    have h2:=hc 2 (by simpa using hx.2)
    split
    ·rename_i hy
     simp only[Bool.and_eq_true,decide_eq_true_eq]at hy
     refine⟨by simp only;omega,by simp,fun j hj=> ?_⟩
     simp only at hj
     rcases(show j=0∨j=1∨j=2 by omega)with rfl|rfl|rfl
     ·exact hd0 0 (by omega)
     ·exact h1
     ·exact h2
    ·exact⟨err,by simp,hd0⟩
   ·split
    ·rename_i hx
     simp only[Bool.and_eq_true]at hx
     have h1:=hc 1 (by simpa using hx.1.1.2)
     have h2:=hc 2 (by simpa using hx.1.2)
     have h3:=hc 3 (by simpa using hx.2)
     split
     ·rename_i hy
      simp only[Bool.and_eq_true,decide_eq_true_eq]at hy
      refine⟨by simp only;omega,by simp,fun j hj=> ?_⟩
      simp only at hj
      rcases(show j=0∨j=1∨j=2∨j=3 by omega)with rfl|rfl|rfl|rfl
      ·exact hd0 0 (by omega)
      ·exact h1
      ·exact h2
      ·exact h3
     ·exact⟨err,by simp,hd0⟩
    ·exact⟨err,by simp,hd0⟩
theorem zS(r:Int)(h:128≤r): ∃b c,(Utf8.encode r).data.toList=b++[c]∧1≤b.length∧b.length≤3∧128≤c.toNat:=by
 have hc:128≤(if Utf8.valid r then r.toNat else Utf8.runeError):=by
  split
  ·omega
  ·simp[Utf8.runeError]
 have hb: ∀n:Nat,128≤n→n<256→128≤(UInt8.ofNat n).toNat:=fun n h1 h2=>by rw[UInt8.toNat_ofNat'];omega
 unfold Utf8.encode
 dsimp only
 generalize (if Utf8.valid r then r.toNat else Utf8.runeError)=k at hc
 rw[if_neg (by omega)]
 split
 ·exact⟨[_],_,rfl,by simp,by simp,hb _ (by omega) (by omega)⟩
 ·split
  ·exact⟨[_,_],_,rfl,by simp,by simp,hb _ (by omega) (by omega)⟩
  ·exact⟨[_,_,_],_,rfl,by simp,by simp,hb _ (by omega) (by omega)⟩
theorem WO(r:Int): ∃b,Eb r=some b:=by
 unfold Eb De
 by_cases h1:(0:Int)≤r<;>by_cases h2:r<55296<;>by_cases h3:(57343:Int)<r<;>by_cases h4:r≤1114111<;>simp[h1,h2,h3,h4]
theorem ZF(a b:UInt8)(ha:a.toNat<128)(hb:b.toNat<128)(r:Int)(h:128≤r):CG [a,b] r=some (-1):=by
 unfold CG
 have n1: ¬r<128:=by omega
 have n0:(0:Int)≤r:=by omega
 simp only[De,n0,n1,decide_true,decide_false,if_true,Option.bind_some]
 rw[if_neg (by simp)]
 by_cases he:r=65533
 ·rw[if_pos (by simpa using he)]
  have r0:Et [a,b] 0=((a.toNat:Int),1):=by
   rcases PU [a,b] 0 (by simp)with ⟨_,e⟩|⟨e,_⟩
   ·exact e
   ·simp at e;omega
  have r1:Et [a,b] 1=((b.toNat:Int),1):=by
   rcases PU [a,b] 1 (by simp)with ⟨_,e⟩|⟨e,_⟩
   ·exact e
   ·simp at e;omega
  have x0: ¬(a.toNat:Int)=65533:=by omega
  have x1: ¬(b.toNat:Int)=65533:=by omega
  rw[Lp (n:=3) (b:= .inl ())]
  ·rfl
  ·simp[Hl,r0,r1,x0,x1]
 ·rw[if_neg (by simpa using he)]
  obtain⟨v,hv⟩:=WO r
  simp only[hv,Option.bind_some]
  cases v with
  |false=>simp
  |true=>
   obtain⟨p,c,e,h1,h2,h3⟩:=zS r h
   simp only[Bool.not_true,Bool.false_eq_true,if_false,e]
   have hl:((p++[c]).length:Int)-1=(p.length:Nat):=by simp
   rw[hl,Ca (by omega)]
   by_cases hp:p.length=1
   ·rw[Lp (n:=1) (b:= .inr (-1))]
    ·rfl
    ·have i1:ES [a,b] ((p.length:Nat):Int)=some b:=by rw[Bu,hp];rfl
     have i2:ES (p++[c]) ((p.length:Nat):Int)=some c:=by rw[Bu,List.getElem?_append_right (Nat.le_refl _),Nat.sub_self];rfl
     have hbc: ¬(b.toNat:Int)=(c.toNat:Int):=by omega
     have hs:UQ [a,b] (some (IntKind.i64.wrap ((p.length:Int)+1))) none=some []:=by
      rw[hp,show((1:Nat):Int)+1=((2:Nat):Int)from rfl,Ca (by omega),XL (by simp)];rfl
     have hf:EG [] c=some (-1):=rfl
     have hlt:((p.length:Nat):Int)<(([a,b]:AR).length:Int):=by rw[hp];simp
     simp only[Hl,hlt,decide_true,if_true,i1,i2,hs,hf,Option.bind_some,hbc,decide_false,Bool.not_false]
     simp
   ·rw[Lp (n:=1) (b:= .inl ())]
    ·rfl
    ·have hlt: ¬((p.length:Nat):Int)<(([a,b]:AR).length:Int):=by simp;omega
     simp only[Hl,hlt,decide_false,Bool.false_eq_true,if_false]
     rfl
theorem ZE(a b:UInt8)(c:UInt8)(h:c.toNat<128):CG [a,b] (c.toNat:Int)=some (Kb [a,b] c):=by
 unfold CG
 have n1:(c.toNat:Int)<128:=by omega
 have n0:(0:Int)≤(c.toNat:Int):=by omega
 have hc:IT.u8.ofI (c.toNat:Int)=c:=by
  show UInt8.ofNat (IntKind.u8.wrap (c.toNat:Int)).toNat=c
  have:IntKind.u8.wrap (c.toNat:Int)=c.toNat:=by simp only[IntKind.wrap,IntKind.bits,IntKind.signed];simp;omega
  rw[this];simp
 simp only[De,n0,n1,decide_true,if_true,Option.bind_some,hc,Xw]
def two(a b c:UInt8):Bool:=c==a||c==b
theorem find2(a b c:UInt8):0≤Kb [a,b] c↔two a b c=true:=by
 unfold Kb two
 by_cases h1:a=c
 ·subst h1;simp[List.findIdx?_cons]
 ·by_cases h2:b=c
  ·subst h2
   have:(a==b)=false:=by simpa using h1
   simp[List.findIdx?_cons,this]
  ·have e1:(a==c)=false:=by simpa using h1
   have e2:(b==c)=false:=by simpa using h2
   have e3:(c==a)=false:=by simpa using Ne.symm h1
   have e4:(c==b)=false:=by simpa using Ne.symm h2
   simp[List.findIdx?_cons,e1,e2,e3,e4]
def mY(a b:UInt8):Ar Bool 256:=((A2 256 T.b).z.set a.toNat true).set b.toNat true
theorem tC(a b:UInt8)(ha:a.toNat<128)(hb:b.toNat<128):EF [a,b]=some (mY a b,true):=by
 unfold EF
 have na: ¬((128:UInt8).toNat:Int)≤(a.toNat:Int):=by show¬(128:Int)≤_;omega
 have nb: ¬((128:UInt8).toNat:Int)≤(b.toNat:Int):=by show¬(128:Int)≤_;omega
 have w1:IntKind.i64.wrap ((0:Int)+1)=1:=rfl
 have w2:IntKind.i64.wrap ((1:Int)+1)=2:=rfl
 have g0:ES [a,b] 0=some a:=rfl
 have g1:ES [a,b] 1=some b:=rfl
 have l0:(0:Int)<(([a,b]:AR).length:Int):=by simp
 have l1:(1:Int)<(([a,b]:AR).length:Int):=by simp
 have l2: ¬(2:Int)<(([a,b]:AR).length:Int):=by simp
 rw[Lp (n:=3) (b:= .inl (mY a b))]
 ·rfl
 ·simp only[Hl,l0,l1,l2,g0,g1,na,nb,w1,w2,decide_true,decide_false,if_true,Bool.false_eq_true,if_false,Option.bind_some,Gi (show a.toNat<256 by omega),Gi (show b.toNat<256 by omega),if_pos (show a.toNat<256 by omega),if_pos (show b.toNat<256 by omega)]
  rfl
theorem pB(a b c:UInt8):Cs (some (mY a b)) c=some (two a b c):=by
 have hl:(mY a b).l=((List.replicate 256 false).set a.toNat true).set b.toNat true:=rfl
 have h:(mY a b).l[c.toNat]? =some (two a b c):=by
  have hc:=c.toNat_lt
  rw[hl]
  simp only[List.getElem?_set,List.length_set,List.length_replicate,List.getElem?_replicate,two]
  by_cases h1:b.toNat=c.toNat
  ·have:=UInt8.toNat_inj.1 h1
   subst this
   have:=b.toNat_lt
   simp;omega
  ·have e1:(c==b)=false:=by rw[beq_eq_false_iff_ne];exact fun e=>h1 (by rw[e])
   rw[if_neg h1]
   by_cases h2:a.toNat=c.toNat
   ·have:=UInt8.toNat_inj.1 h2
    subst this
    have:=a.toNat_lt
    simp;omega
   ·have e2:(c==a)=false:=by rw[beq_eq_false_iff_ne];exact fun e=>h2 (by rw[e])
    rw[if_neg h2,if_pos (by simpa using hc)]
    simp[e1,e2]
 simp[Cs,ES,h]
theorem Uw(l:AR)(a b:UInt8)(ha:a.toNat<128)(hb:b.toNat<128)(hl:l.length<1073741824):Fl l [a,b]=some (l.any (two a b)):=by
 have key: ∃r:Int,GK l [a,b]=some r∧(0≤r↔l.any (two a b)=true):=by
  unfold GK
  rw[if_neg (by simp),if_neg (by simp)]
  simp only[E7,Option.bind_some]
  by_cases h8:(8:Int)<(l.length:Int)
  ·rw[if_pos (by simpa using h8)]
   simp only[tC a b ha hb,Option.bind_some,if_true]
   obtain⟨r,e,hr⟩:=Mx (F:=fun(s26:Int)=>
    if(decide (s26<(l.length:Int)))=true then
    (ES l s26).bind fun x30=>
    (Cs (some (mY a b)) x30).bind fun x31=>
    if x31=true then
    (some s26).map fun r=> .inr (.inr r)
    else
    some (.inl (IntKind.i64.wrap (s26+1)))
    else
    some (.inr (.inl ()):_⊕Unit⊕Int)) (fun s=>l.length-s.toNat) (fun s=> ∃n:Nat,s=(n:Int)∧n≤l.length∧(l.take n).any (two a b)=false)
    (fun r=>(r= .inl ()∧l.any (two a b)=false)∨ ∃n:Nat,r= .inr (n:Int)∧l.any (two a b)=true) (by
     rintro s ⟨n,rfl,h1,h2⟩
     by_cases hn:n<l.length
     ·rw[if_pos (by simpa using hn),Bu,List.getElem?_eq_getElem hn]
      simp only[Option.bind_some,pB]
      by_cases hx:two a b l[n]=true
      ·right
       refine⟨_,by rw[if_pos hx];rfl, .inr ⟨n,rfl,?_⟩⟩
       rw[List.any_eq_true];exact⟨_,List.getElem_mem hn,hx⟩
      ·left
       rw[if_neg hx,show(n:Int)+1=((n+1:Nat):Int) by omega,Ca (by omega)]
       refine⟨_,rfl,⟨n+1,rfl,by omega,?_⟩,by omega⟩
       rw[List.take_succ_eq_append_getElem hn,List.any_append,h2]
       simpa using hx
     ·right
      rw[if_neg (by simpa using hn)]
      refine⟨_,rfl, .inl ⟨rfl,?_⟩⟩
      rwa [List.take_of_length_le (by omega)]at h2) (s:=0) ⟨0,rfl,by omega,by simp⟩
   rw[e]
   rcases hr with ⟨rfl,hr⟩|⟨n,rfl,hr⟩
   ·exact⟨-1,rfl,by simp[hr]⟩
   ·exact⟨n,rfl,by simp[hr]⟩
  ·rw[if_neg (by simpa using h8)]
   obtain⟨r,e,hr⟩:=Mx (F:=fun(s14:Nat)=>
    if s14<l.length then
    (CG [a,b] (Et l s14).1).bind fun x19=>
    if(decide (0≤x19))=true then
    (some ((s14:Nat):Int)).map fun r=> .inr (.inr r)
    else
    some (.inl (s14+(Et l s14).2))
    else
    some (.inr (.inl ()):_⊕Unit⊕Int)) (fun s=>l.length-s) (fun n=>n≤l.length∧(l.take n).any (two a b)=false)
    (fun r=>(r= .inl ()∧l.any (two a b)=false)∨ ∃n:Nat,r= .inr (n:Int)∧l.any (two a b)=true) (by
     rintro n ⟨h1,h2⟩
     by_cases hn:n<l.length
     ·rw[if_pos hn]
      rcases PU l n hn with ⟨hlo,e⟩|⟨hhi,e1,e2,e3⟩
      ·simp only[e,ZE a b _ hlo,Option.bind_some,find2,decide_eq_true_eq]
       by_cases hx:two a b l[n]=true
       ·right
        refine⟨_,by rw[if_pos hx];rfl, .inr ⟨n,rfl,?_⟩⟩
        rw[List.any_eq_true];exact⟨_,List.getElem_mem hn,hx⟩
       ·left
        rw[if_neg hx]
        refine⟨_,rfl,⟨by omega,?_⟩,by omega⟩
        rw[List.take_succ_eq_append_getElem hn,List.any_append,h2]
        simpa using hx
      ·left
       simp only[ZF a b ha hb _ e1,Option.bind_some]
       have hle:n+(Et l n).2≤l.length:=by
        obtain⟨hj,_⟩:=e3 ((Et l n).2-1) (by omega)
        omega
       refine⟨n+(Et l n).2,by simp,⟨hle,?_⟩,by omega⟩
       rw[List.any_eq_false]at h2 ⊢
       intro x hx
       obtain⟨i,hi,rfl⟩:=List.mem_iff_getElem.1 hx
       rw[List.length_take]at hi
       rw[List.getElem_take]
       by_cases hin:i<n
       ·exact h2 _ (List.mem_iff_getElem.2 ⟨i,by rw[List.length_take];omega,by rw[List.getElem_take]⟩)
       ·obtain⟨hj,hv⟩:=e3 (i-n) (by omega)
        have:l[n+(i-n)]=l[i]:=by congr 1;omega
        rw[this]at hv
        intro ht
        simp only[two,Bool.or_eq_true,beq_iff_eq]at ht
        rcases ht with ht|ht<;>rw[ht]at hv<;>omega
     ·right
      rw[if_neg hn]
      refine⟨_,rfl, .inl ⟨rfl,?_⟩⟩
      rwa [List.take_of_length_le (by omega)]at h2) (s:=0) ⟨by omega,by simp⟩
   rw[e]
   rcases hr with ⟨rfl,hr⟩|⟨n,rfl,hr⟩
   ·exact⟨-1,rfl,by simp[hr]⟩
   ·exact⟨n,rfl,by simp[hr]⟩
 obtain⟨r,e,hr⟩:=key
 simp only[Fl,e,Option.bind_some]
 congr 1
 rw[Bool.eq_iff_iff];simpa using hr
end Go.Proofs.YtobejhpigbllpaaGreatDoor.Am
namespace Go.Proofs.YtobejhpigbllpaaGreatDoor.Am
theorem X3(l:AR)(c:UInt8)(hl:l.length<1073741824):GL l [c]=some (decide (c∈l)):=by
 simp only[GL,oI l c hl,Option.bind_some]
 congr 1
 rw[Bool.eq_iff_iff]
 simp only[decide_eq_true_eq]
 rcases eG l c with ⟨h,e⟩|⟨p,q,rfl,h,e⟩
 ·rw[e]
  exact⟨fun h=>by omega,fun hm=>absurd rfl (h c hm)⟩
 ·rw[e];simp
theorem Aa3(l:AR)(a b:UInt8):l.any (two a b)=(decide (a∈l)||decide (b∈l)):=by
 rw[Bool.eq_iff_iff]
 simp only[List.any_eq_true,two,Bool.or_eq_true,beq_iff_eq,decide_eq_true_eq]
 constructor
 ·rintro⟨x,hx,rfl|rfl⟩
  ·exact .inl hx
  ·exact .inr hx
 ·rintro(h|h)
  ·exact⟨a,h, .inl rfl⟩
  ·exact⟨b,h, .inr rfl⟩
def Tc(k v:AR):AR×Int:=if k=[]∨61∈k∨10∈k∨10∈v then([],5)else if 512<(k++[61]++v).length then([],4)else(k++[61]++v,0)
theorem mR(k v:AR)(hk:k.length<1073741824)(hv:v.length<1073741824):((if k.length+[61].length≤2*BR then some (k++([61]:AR))else none).bind fun x10=>
  (if x10.length+v.length≤2*BR then some (x10++v)else none).bind fun x12=>
  if(decide (512<(x12.length:Int)))=true then
  some (([]:AR),(4:Int))
  else
  some (x12,0))=some (if 512<(k++[61]++v).length then([],4)else(k++[61]++v,0)):=by
 rw[if_pos (by unfold BR;simp;omega),Option.bind_some,if_pos (by unfold BR;simp;omega),Option.bind_some]
 by_cases h:512<(k++[61]++v).length
 ·rw[if_pos h,if_pos (by rw[decide_eq_true_eq];omega)]
 ·rw[if_neg h,if_neg (by rw[decide_eq_true_eq];omega)]
theorem pX(k v:AR)(hk:k.length<1073741824)(hv:v.length<1073741824):Ht ⟨k,v⟩=some (Tc k v):=by
 unfold Ht
 simp only[Uw k 61 10 (by decide) (by decide) hk,Aa3,X3 v 10 hv,Option.bind_some,mR k v hk hv,HO]
 by_cases h1:k=[]<;>by_cases h2:(61:UInt8)∈k<;>by_cases h3:(10:UInt8)∈k<;>by_cases h4:(10:UInt8)∈v<;>simp[Tc,h1,h2,h3,h4]
def aP(a k v:AR):Prop:=a=k++61::v∧61∉k∧k≠[]∧10∉a∧a.length≤512
theorem UR{c:UInt8}: ∀{p p' q q':AR},p++c::q=p'++c::q'→c∉p→c∉p'→p=p'∧q=q'
 |[],[],_,_,h,_,_=>by simpa using h
 |[],x::p',_,_,h,_,h2=>by simp only[List.nil_append,List.cons_append,List.cons.injEq]at h;exact absurd (by rw[h.1];simp) h2
 |x::p,[],_,_,h,h1,_=>by simp only[List.nil_append,List.cons_append,List.cons.injEq]at h;exact absurd (by rw[←h.1];simp) h1
 |x::p,y::p',_,_,h,h1,h2=>by
  simp only[List.cons_append,List.cons.injEq]at h
  obtain⟨a,b⟩:=UR h.2 (fun h=>h1 (List.mem_cons_of_mem _ h)) (fun h=>h2 (List.mem_cons_of_mem _ h))
  exact⟨by rw[h.1,a],b⟩
end Go.Proofs.YtobejhpigbllpaaGreatDoor.Am
namespace Go.Proofs.YtobejhpigbllpaaGreatDoor.Am
def OH(l:List AR):AR:=l.flatMap fun x=>x++[10]
theorem UN(x:AR)(l:List AR):OH (x::l)=x++10::OH l:=by simp[OH]
theorem kL(a b:List AR):OH (a++b)=OH a++OH b:=by simp[OH]
theorem wP(x:AR):OH [x]=x++[10]:=by simp[OH]
theorem bA(a:List AR)(x:AR):OH (a++[x])=OH a++x++[10]:=by rw[kL,wP,List.append_assoc]
theorem pV{l:List AR}{n:Nat}(h:n<l.length):OH (l.take (n+1))=OH (l.take n)++l[n]++[10]:=by
 rw[List.take_succ_eq_append_getElem h,bA]
theorem txt_le(l:List AR)(n:Nat):(OH (l.take n)).length≤(OH l).length:=by
 have:=congrArg List.length (kL (l.take n) (l.drop n))
 rw[List.take_append_drop,List.length_append]at this
 omega
theorem RR: ∀{l:List AR},(∀x∈l,(10:UInt8)∉x)→DG 10 (OH l)=l++[[]]
 |[],_=>rfl
 |x::l,h=>by
  rw[UN,MJ (Zz (h x List.mem_cons_self)),RR fun y hy=>h y (List.mem_cons_of_mem _ hy)]
  rfl
theorem wQ(l:List AR)(n:Nat)(h: ∀x∈l,x.length≤n):(OH l).length≤l.length*(n+1):=by
 induction l with
 |nil=>simp[OH]
 |cons x l ih=>
  have h1:=ih fun y hy=>h y (List.mem_cons_of_mem _ hy)
  have h2:=h x List.mem_cons_self
  rw[UN,List.length_append,List.length_cons,List.length_cons,Nat.succ_mul];omega
theorem zD(l:List AR):l.length≤(OH l).length:=by
 induction l with
 |nil=>simp
 |cons x l ih=>rw[UN,List.length_append,List.length_cons,List.length_cons];omega
theorem tT(g:GS AR)(h:(OH g.l).length≤BR):Nd g=some (OH g.l):=by
 have hl:=zD g.l
 unfold BR at h
 unfold Nd
 refine CM (fun s=>g.l.length-s.1.toNat) (fun s=> ∃n:Nat,s.1=n∧n≤g.l.length∧s.2=OH (g.l.take n)) (fun r=>r= .inl (OH g.l)) ⟨0,rfl,by omega,by simp[OH]⟩ ?_ ?_
 rotate_left
 ·rintro _ rfl
  simp only[Sum.elim_inl,aH]
  rw[if_pos ⟨by unfold BR;exact h,fun e=>by cases e⟩];rfl
 ·rintro⟨s,b⟩ ⟨n,rfl,h1,h2⟩
  dsimp only at h2 ⊢
  subst h2
  by_cases hn:n<g.l.length
  ·have h3:=pV hn
   have h4:=txt_le g.l (n+1)
   rw[h3]at h4
   simp only[List.length_append,List.length_cons,List.length_nil]at h4
   rw[if_pos (by simpa using hn),Bu,List.getElem?_eq_getElem hn]
   left
   refine⟨((n:Int)+1,OH (g.l.take (n+1))),?_,⟨n+1,by simp,by omega,rfl⟩,by dsimp only;omega⟩
   simp only[Option.bind_some,Le]
   rw[if_pos (by unfold BR;omega)]
   simp only[Option.bind_some]
   rw[if_pos (by unfold BR;simp;omega),Option.bind_some,←h3,show(n:Int)+1=((n+1:Nat):Int) by omega,Ca (by omega)]
  ·right
   rw[if_neg (by simpa using hn)]
   exact⟨_,rfl,by rw[List.take_of_length_le (by omega)]⟩
end Go.Proofs.YtobejhpigbllpaaGreatDoor.Am
