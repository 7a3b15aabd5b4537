/-
  What functions compute, and that they do. Printed by mkwalk.py.
  All walks. Printed by mkwalk.py.
  Plain laws: addresses, prefixes, endpoints: which may be, which is ahead.
  Plain laws: what the functions that split a text come to.
  Plain laws: texts without blanks at their ends, letters made small.
  Plain laws: two loops side by side; a text's lines with and without an end.
  Plain laws: runes of a text; one of two bytes in a text.
  Plain laws: lines of pairs; the law PairlineLines.
  Plain laws: the text of lines; the laws LinesSplit and LinesJoin.
  Plain laws: blocks of pairs; the laws PairlineBlocks, PairlineReads, PairlineMany.
  Plain laws: a number's digits; the text of an error.
  Plain laws: a number's text.
  Plain laws: texts put together; bytes as digits of sixteen.
  Plain laws: addresses as texts.
-/
import Derived.Test.YtobejhpigbllpaaGreatDoorX4
section
set_option linter.unusedVariables false
set_option maxRecDepth 100000
set_option maxHeartbeats 4000000
namespace Go.Proofs.YtobejhpigbllpaaGreatDoor.Am
noncomputable def E4(a0:Ao):Option Bool:=(if(decide (a0.Kind=1))=true then (some ():Option Unit).bind (fun(p10:Unit)=>some (.inl (()))) else if(decide (a0.Kind=2))=true then (some ():Option Unit).bind (fun(p12:Unit)=>(some ():Option Unit).bind (fun(p13:Unit)=>(some ():Option Unit).bind (fun(p14:Unit)=>some (.inr (.inl (())))))) else if(decide (a0.Kind=3))=true then (some ():Option Unit).bind (fun(p16:Unit)=>(some ():Option Unit).bind (fun(p17:Unit)=>some (.inr (.inr (.inl (())))))) else if(decide (a0.Kind=4))=true then (some ():Option Unit).bind (fun(p19:Unit)=>some (.inr (.inr (.inr (.inl (())))))) else if(decide (a0.Kind=5))=true then (some ():Option Unit).bind (fun(p21:Unit)=>some (.inr (.inr (.inr (.inr (.inl (()))))))) else if(decide (a0.Kind=6))=true then (some ():Option Unit).bind (fun(p23:Unit)=>(some ():Option Unit).bind (fun(p24:Unit)=>some (.inr (.inr (.inr (.inr (.inr (.inl (()))))))))) else some (.inr (.inr (.inr (.inr (.inr (.inr (()))))))):Option (Unit⊕(Unit⊕(Unit⊕(Unit⊕(Unit⊕(Unit⊕Unit))))))).bind (Sum.elim (fun(p2:Unit)=>(some ({a0 with Bytes:= .nil}):Option Ao).bind (fun(p25:Ao)=>(Cy true (some true)).bind fun x27=>(Cy x27 (let x30:=(⟨p25.Kind, .nil,Al.z,(T.arr 32 T.u8).z,0⟩:Ao);(FO p25 x30).bind fun x31=>some x31)).bind fun x32=>some x32)) (Sum.elim (fun(p3:Unit)=>((Gp a0.To).bind fun x35=>let x37:={a0 with To:=(⟨A7.z,0⟩:AF)};some (x35,x37):Option (Bool×Ao)).bind (fun(p33:(Bool×Ao))=>(Cy p33.1 (some true)).bind fun x38=>(let x40:=(⟨[0,0,0,0,0,0,0,0,0,0,0,0,0,0,0,0,0,0,0,0,0,0,0,0,0,0,0,0,0,0,0,0],rfl⟩:(Ar UInt8 32))
 some ({p33.2 with Key:=x40}):Option Ao).bind (fun(p39:Ao)=>(Cy true (some x38)).bind fun x42=>(some ({p39 with Bytes:= .nil}):Option Ao).bind (fun(p43:Ao)=>(Cy true (some x42)).bind fun x45=>(Cy x45 (let x48:=(⟨p43.Kind, .nil,Al.z,(T.arr 32 T.u8).z,0⟩:Ao);(FO p43 x48).bind fun x49=>some x49)).bind fun x50=>some x50)))) (Sum.elim (fun(p4:Unit)=>(let x52:=(⟨[0,0,0,0,0,0,0,0,0,0,0,0,0,0,0,0,0,0,0,0,0,0,0,0,0,0,0,0,0,0,0,0],rfl⟩:(Ar UInt8 32));some ({a0 with Key:=x52}):Option Ao).bind (fun(p51:Ao)=>(Cy true (some true)).bind fun x54=>(some ({p51 with Bytes:= .nil}):Option Ao).bind (fun(p55:Ao)=>(Cy true (some x54)).bind fun x57=>(Cy x57 (let x60:=(⟨p55.Kind, .nil,Al.z,(T.arr 32 T.u8).z,0⟩:Ao);(FO p55 x60).bind fun x61=>some x61)).bind fun x62=>some x62))) (Sum.elim (fun(p5:Unit)=>(some ({a0 with Bytes:= .nil}):Option Ao).bind (fun(p63:Ao)=>(Cy true (some true)).bind fun x65=>(Cy x65 (let x68:=(⟨p63.Kind, .nil,Al.z,(T.arr 32 T.u8).z,0⟩:Ao);(FO p63 x68).bind fun x69=>some x69)).bind fun x70=>some x70)) (Sum.elim (fun(p6:Unit)=>((Ly a0.Why).bind fun x73=>some (x73,{a0 with Why:=0}):Option (Bool×Ao)).bind (fun(p71:(Bool×Ao))=>(Cy p71.1 (some true)).bind fun x75=>(Cy x75 (let x78:=(⟨p71.2.Kind, .nil,Al.z,(T.arr 32 T.u8).z,0⟩:Ao);(FO p71.2 x78).bind fun x79=>some x79)).bind fun x80=>some x80)) (Sum.elim (fun(p7:Unit)=>((Gp a0.To).bind fun x83=>let x85:={a0 with To:=(⟨A7.z,0⟩:AF)};some (x83,x85):Option (Bool×Ao)).bind (fun(p81:(Bool×Ao))=>(Cy p81.1 (some true)).bind fun x86=>(some ({p81.2 with Bytes:= .nil}):Option Ao).bind (fun(p87:Ao)=>
 (Cy true (some x86)).bind fun x89=>(Cy x89 (let x92:=(⟨p87.Kind, .nil,Al.z,(T.arr 32 T.u8).z,0⟩:Ao);(FO p87 x92).bind fun x93=>some x93)).bind fun x94=>some x94))) (fun(p8:Unit)=>(Cy false (let x97:=(⟨a0.Kind, .nil,Al.z,(T.arr 32 T.u8).z,0⟩:Ao);(FO a0 x97).bind fun x98=>some x98)).bind fun x99=>some x99)))))))
noncomputable def U4(a:CF [Ae]):Cz tb Km [Ae] [T.b] a:=Af<|Ai (Eo (t:=Ae) 1 rfl rfl (Ag rfl)) fun _=>Ad (Aq En)<|Ah<|Ad (A6 (Ag rfl))<|An (AE (t:=Ae) (u:=(T.int .i64)) (Ag rfl) rfl rfl AN rfl rfl) fun x1=>Aa.inl (τ:=(Unit⊕(Unit⊕(Unit⊕(Unit⊕(Unit⊕(Unit⊕Unit))))))) (φs:=[.val (T.int .i64) x1]) (n:=2) (L:=[(1, .cp 1 0)]) (Γr:=(Sum.elim (fun p2=>⟨[(0, .kv 3560080),(1, .kv 3560120)],[(1, .cells [(53, .val Ae a)]),Ce,Uo,JI,Un,CV,CD,CC,CB,JH]⟩) (Sum.elim (fun p3=>⟨[(0, .kv 3560080),(1, .kv 3560120)],[(1, .cells [(53, .val Ae a)]),Ce,Um,Fc,Ul,CV,Bo,Bn,Bm,CY,CX,CW,Fb,DO,DN,DM]⟩) (Sum.elim (fun p4=>⟨[(0, .kv 3560080),(1, .kv 3560120)],[(1, .cells [(53, .val Ae a)]),Ce,Uk,Hg,Uj,CV,DG,DF,DE,BV,BU,BT,Hf]⟩) (Sum.elim (fun p5=>⟨[(0, .kv 3560080),(1, .kv 3560120)],[(1, .cells [(53, .val Ae a)]),Ce,Ui,JG,Uh,CV,CD,CC,CB,JF]⟩) (Sum.elim (fun p6=>⟨[(0, .kv 3560080),(1, .kv 3560120)],[(1, .cells [(53, .val Ae a)]),Ce,Ug,JE,Uf,CV,GB,GA,G9,JD]⟩) (Sum.elim (fun p7=>⟨[(0, .kv 3560080),(1, .kv 3560120)],[(1, .cells [(53, .val Ae a)]),Ce,Ue,He,Ud,CV,Bo,Bn,Bm,BV,BU,BT,Hd]⟩) (fun p8=>⟨[(0, .kv 3560080),(1, .kv 3560120)],[(1, .cells [(53, .val Ae a)]),Ce,Uc,Pt,Ub,Ua]⟩)))))))) 2000000 (Sum.elim (fun p2=>⟨[WV,(1, .cp 1 0)],[(1, .cells [(53, .val Ae a)]),Uo,JI,Un,CV,CD,CC,CB,JH]⟩) (Sum.elim (fun p3=>⟨[WV,(1, .cp 1 0)],[(1, .cells [(53, .val Ae a)]),Um,Fc,Ul,CV,Bo,Bn,Bm,CY,CX,CW,Fb,DO,DN,DM]⟩) (Sum.elim (fun p4=>⟨[WV,(1, .cp 1 0)],[(1, .cells [(53, .val Ae a)]),Uk,Hg,Uj,CV,DG,DF,DE,BV,BU,BT,Hf]⟩) (Sum.elim (fun p5=>⟨[WV,(1, .cp 1 0)],[(1, .cells [(53, .val Ae a)]),Ui,JG,Uh,CV,CD,CC,CB,JF]⟩) (Sum.elim (fun p6=>⟨[WV,(1, .cp 1 0)],[(1, .cells [(53, .val Ae a)]),Ug,JE,Uf,CV,GB,GA,G9,JD]⟩) (Sum.elim (fun p7=>⟨[WV,(1, .cp 1 0)],[(1, .cells [(53, .val Ae a)]),Ue,He,Ud,CV,Bo,Bn,Bm,BV,BU,BT,Hd]⟩) (fun p8=>⟨[WV,(1, .cp 1 0)],[(1, .cells [(53, .val Ae a)]),Uc,Pt,Ub,Ua]⟩))))))) Ix rfl rfl rfl (BJ rfl) (.cons (IX (Ag rfl))<| .nil) sB rfl (
 Af<|Ai (AA 2 _ Iq rfl rfl) fun _=>Ad (Aq En)<|Ah<|Af<|Ab rfl<|Ac<|A4<|Af<|Aj (Aw rfl (Ag rfl) AK) fun x9=>Ab rfl<|Ac<|Aa.cond (Ag rfl) (Af<|Aa.inl (τ:=Unit) (φs:=[]) (n:=1) (L:=[(2, .cp 2 0)]) (Γr:=(fun p10=>⟨[H5],[(1, .cells [(53, .val Ae a)]),Co,Ce,Fx,CD,CC,CB]⟩)) 2100000 (fun p10=>⟨[en_9,(2, .cp 2 0)],[(1, .cells [(53, .val Ae a)]),Co,Ce,CD,CC,CB]⟩) BL rfl rfl rfl (BJ rfl) (.nil) sB rfl (Af<|Ai (AA 0 _ De rfl rfl) fun _=>Ah<|Ba (Bw (φs:=[.fnv (.func AS) [] [], .fnv (.func AW) [] [], .fnv (.func AU) [] []]) 3600040 (.cons B3<| .cons B3<| .cons B3<| .nil) rfl rfl sB (js:=[3600040,3600041,3600042]) rfl)<|Ai (AT (Ag rfl) (Ag rfl) rfl rfl rfl rfl) fun _=>Ac<|Ay () (.cons (D9 rfl rfl rfl rfl)<| .nil) sB) (fun p10=>Au sB rfl (.one rfl) sB sB) (.one fun p10=>Ai (EX (l:=[[3600040,3600041,3600042]]) 20001008 (.cons (Ag rfl) rfl<| .nil) rfl rfl) fun _=>Ba (Bw (φs:=[.val Ak [114,101,112,108,121], .own 20001008]) 3400360 (.cons Df<| .cons (Ag rfl)<| .nil) rfl rfl sB (js:=[3400360,3400361]) rfl)<|Ai (AT (Ag rfl) (Ag rfl) rfl rfl rfl rfl) fun _=>Ad (Aq En)<|Ac<|BR (js:=[3400360,3400361]) 3560080 2 rfl rfl rfl rfl<|BQ 3560120 3 rfl rfl rfl<|Ay (.inl (())) (.cons (Ei (js:=[3400360,3400361]) (j:=2) (j':=3560080) rfl rfl rfl rfl rfl)<| .cons (CU rfl)<| .nil) sB)) (Af<|Aj (Aw rfl (Ag rfl) AK) fun x11=>Ab rfl<|Ac<|Aa.cond (Ag rfl) (Af<|Aa.inl (τ:=Unit) (φs:=[]) (n:=1) (L:=[(2, .cp 2 0)]) (Γr:=(fun p12=>⟨[H5],[(1, .cells [(53, .val Ae a)]),Co,Ce,Fx,Bo,Bn,Bm]⟩)) 2100000 (fun p12=>⟨[IU,(2, .cp 2 0)],[(1, .cells [(53, .val Ae a)]),Co,Ce,Bo,Bn,Bm]⟩) HM rfl rfl rfl (BJ rfl) (.nil) sB rfl (
 Af<|Ai (AA 0 _ De rfl rfl) fun _=>Ah<|Ba (Bw (φs:=[.fnv (.func Ct) [] [], .fnv (.func C4) [] [], .fnv (.func C3) [] []]) 3600040 (.cons B3<| .cons B3<| .cons B3<| .nil) rfl rfl sB (js:=[3600040,3600041,3600042]) rfl)<|Ai (AT (Ag rfl) (Ag rfl) rfl rfl rfl rfl) fun _=>Ac<|Ay () (.cons (D9 rfl rfl rfl rfl)<| .nil) sB) (fun p12=>Au sB rfl (.one rfl) sB sB) (.one fun p12=>Aa.inl (τ:=Unit) (φs:=[]) (n:=1) (L:=[(2, .cp 2 0),IU]) (Γr:=(fun p13=>⟨[O4],[(1, .cells [(53, .val Ae a)]),Co,Ce,Fx,Up,Bo,Bn,Bm,CY,CX,CW]⟩)) 2100000 (fun p13=>⟨[O5,(2, .cp 2 0),IU],[(1, .cells [(53, .val Ae a)]),Co,Ce,Bo,Bn,Bm,CY,CX,CW]⟩) G7 rfl rfl rfl (BJ rfl) (.nil) sB rfl (Af<|Ai (AA 0 _ De rfl rfl) fun _=>Ah<|Ba (Bw (φs:=[.fnv (.func BP) [] [], .fnv (.func Ci) [] [], .fnv (.func Ch) [] []]) 13600040 (.cons B3<| .cons B3<| .cons B3<| .nil) rfl rfl sB (js:=[13600040,13600041,13600042]) rfl)<|Ai (AT (Ag rfl) (Ag rfl) rfl rfl rfl rfl) fun _=>Ac<|Ay () (.cons (D9 rfl rfl rfl rfl)<| .nil) sB) (fun p13=>Au sB rfl (.one rfl) sB sB) (.one fun p13=>Aa.inl (τ:=Unit) (φs:=[]) (n:=1) (L:=[(2, .cp 2 0),IU,O5]) (Γr:=(fun p14=>⟨[oA],[(1, .cells [(53, .val Ae a)]),Co,Ce,Fx,Up,nZ,Bo,Bn,Bm,CY,CX,CW,DO,DN,DM]⟩)) 2100000 (fun p14=>⟨[oB,(2, .cp 2 0),IU,O5],[(1, .cells [(53, .val Ae a)]),Co,Ce,Bo,Bn,Bm,CY,CX,CW,DO,DN,DM]⟩) BL rfl rfl rfl (BJ rfl) (.nil) sB rfl (Af<|Ai (AA 0 _ De rfl rfl) fun _=>Ah<|Ba (Bw (φs:=[.fnv (.func AS) [] [], .fnv (.func AW) [] [], .fnv (.func AU) [] []]) 23600040 (.cons B3<| .cons B3<| .cons B3<| .nil) rfl rfl sB (js:=[23600040,23600041,23600042]) rfl)<|
 Ai (AT (Ag rfl) (Ag rfl) rfl rfl rfl rfl) fun _=>Ac<|Ay () (.cons (D9 rfl rfl rfl rfl)<| .nil) sB) (fun p14=>Au sB rfl (.one rfl) sB sB) (.one fun p14=>Ai (EX (l:=[[3600040,3600041,3600042],[13600040,13600041,13600042],[23600040,23600041,23600042]]) 20001015 (.cons (Ag rfl) rfl<| .cons (Ag rfl) rfl<| .cons (Ag rfl) rfl<| .nil) rfl rfl) fun _=>Ba (Bw (φs:=[.val Ak [115,101,110,100], .own 20001015]) 3400640 (.cons Df<| .cons (Ag rfl)<| .nil) rfl rfl sB (js:=[3400640,3400641]) rfl)<|Ai (AT (Ag rfl) (Ag rfl) rfl rfl rfl rfl) fun _=>Ad (Aq En)<|Ac<|BR (js:=[3400640,3400641]) 3560080 2 rfl rfl rfl rfl<|BQ 3560120 3 rfl rfl rfl<|Ay (.inr (.inl (()))) (.cons (Ei (js:=[3400640,3400641]) (j:=2) (j':=3560080) rfl rfl rfl rfl rfl)<| .cons (CU rfl)<| .nil) sB)))) (Af<|Aj (Aw rfl (Ag rfl) AK) fun x15=>Ab rfl<|Ac<|Aa.cond (Ag rfl) (Af<|Aa.inl (τ:=Unit) (φs:=[]) (n:=1) (L:=[(2, .cp 2 0)]) (Γr:=(fun p16=>⟨[H5],[(1, .cells [(53, .val Ae a)]),Co,Ce,Fx,DG,DF,DE]⟩)) 2100000 (fun p16=>⟨[O3,(2, .cp 2 0)],[(1, .cells [(53, .val Ae a)]),Co,Ce,DG,DF,DE]⟩) G7 rfl rfl rfl (BJ rfl) (.nil) sB rfl (Af<|Ai (AA 0 _ De rfl rfl) fun _=>Ah<|Ba (Bw (φs:=[.fnv (.func BP) [] [], .fnv (.func Ci) [] [], .fnv (.func Ch) [] []]) 3600040 (.cons B3<| .cons B3<| .cons B3<| .nil) rfl rfl sB (js:=[3600040,3600041,3600042]) rfl)<|Ai (AT (Ag rfl) (Ag rfl) rfl rfl rfl rfl) fun _=>Ac<|Ay () (.cons (D9 rfl rfl rfl rfl)<| .nil) sB) (fun p16=>Au sB rfl (.one rfl) sB sB) (.one fun p16=>Aa.inl (τ:=Unit) (φs:=[]) (n:=1) (L:=[(2, .cp 2 0),O3]) (Γr:=(fun p17=>⟨[O4],[(1, .cells [(53, .val Ae a)]),Co,Ce,Fx,nX,DG,DF,DE,BV,BU,BT]⟩)) 2100000 (fun p17=>⟨[nY,(2, .cp 2 0),O3],[(1, .cells [(53, .val Ae a)]),Co,Ce,DG,DF,DE,BV,BU,BT]⟩) BL rfl rfl rfl (BJ rfl) (.nil) sB rfl (
 Af<|Ai (AA 0 _ De rfl rfl) fun _=>Ah<|Ba (Bw (φs:=[.fnv (.func AS) [] [], .fnv (.func AW) [] [], .fnv (.func AU) [] []]) 13600040 (.cons B3<| .cons B3<| .cons B3<| .nil) rfl rfl sB (js:=[13600040,13600041,13600042]) rfl)<|Ai (AT (Ag rfl) (Ag rfl) rfl rfl rfl rfl) fun _=>Ac<|Ay () (.cons (D9 rfl rfl rfl rfl)<| .nil) sB) (fun p17=>Au sB rfl (.one rfl) sB sB) (.one fun p17=>Ai (EX (l:=[[3600040,3600041,3600042],[13600040,13600041,13600042]]) 20001021 (.cons (Ag rfl) rfl<| .cons (Ag rfl) rfl<| .nil) rfl rfl) fun _=>Ba (Bw (φs:=[.val Ak [100,101,108,105,118,101,114], .own 20001021]) 3400880 (.cons Df<| .cons (Ag rfl)<| .nil) rfl rfl sB (js:=[3400880,3400881]) rfl)<|Ai (AT (Ag rfl) (Ag rfl) rfl rfl rfl rfl) fun _=>Ad (Aq En)<|Ac<|BR (js:=[3400880,3400881]) 3560080 2 rfl rfl rfl rfl<|BQ 3560120 3 rfl rfl rfl<|Ay (.inr (.inr (.inl (())))) (.cons (Ei (js:=[3400880,3400881]) (j:=2) (j':=3560080) rfl rfl rfl rfl rfl)<| .cons (CU rfl)<| .nil) sB))) (Af<|Aj (Aw rfl (Ag rfl) AK) fun x18=>Ab rfl<|Ac<|Aa.cond (Ag rfl) (Af<|Aa.inl (τ:=Unit) (φs:=[]) (n:=1) (L:=[(2, .cp 2 0)]) (Γr:=(fun p19=>⟨[H5],[(1, .cells [(53, .val Ae a)]),Co,Ce,Fx,CD,CC,CB]⟩)) 2100000 (fun p19=>⟨[nW,(2, .cp 2 0)],[(1, .cells [(53, .val Ae a)]),Co,Ce,CD,CC,CB]⟩) BL rfl rfl rfl (BJ rfl) (.nil) sB rfl (Af<|Ai (AA 0 _ De rfl rfl) fun _=>Ah<|Ba (Bw (φs:=[.fnv (.func AS) [] [], .fnv (.func AW) [] [], .fnv (.func AU) [] []]) 3600040 (.cons B3<| .cons B3<| .cons B3<| .nil) rfl rfl sB (js:=[3600040,3600041,3600042]) rfl)<|Ai (AT (Ag rfl) (Ag rfl) rfl rfl rfl rfl) fun _=>
 Ac<|Ay () (.cons (D9 rfl rfl rfl rfl)<| .nil) sB) (fun p19=>Au sB rfl (.one rfl) sB sB) (.one fun p19=>Ai (EX (l:=[[3600040,3600041,3600042]]) 20001026 (.cons (Ag rfl) rfl<| .nil) rfl rfl) fun _=>Ba (Bw (φs:=[.val Ak [114,101,102,117,115,101], .own 20001026]) 3401080 (.cons Df<| .cons (Ag rfl)<| .nil) rfl rfl sB (js:=[3401080,3401081]) rfl)<|Ai (AT (Ag rfl) (Ag rfl) rfl rfl rfl rfl) fun _=>Ad (Aq En)<|Ac<|BR (js:=[3401080,3401081]) 3560080 2 rfl rfl rfl rfl<|BQ 3560120 3 rfl rfl rfl<|Ay (.inr (.inr (.inr (.inl (()))))) (.cons (Ei (js:=[3401080,3401081]) (j:=2) (j':=3560080) rfl rfl rfl rfl rfl)<| .cons (CU rfl)<| .nil) sB)) (Af<|Aj (Aw rfl (Ag rfl) AK) fun x20=>Ab rfl<|Ac<|Aa.cond (Ag rfl) (Af<|Aa.inl (τ:=Unit) (φs:=[]) (n:=1) (L:=[(2, .cp 2 0)]) (Γr:=(fun p21=>⟨[H5],[(1, .cells [(53, .val Ae a)]),Co,Ce,Fx,GB,GA,G9]⟩)) 2100000 (fun p21=>⟨[nV,(2, .cp 2 0)],[(1, .cells [(53, .val Ae a)]),Co,Ce,GB,GA,G9]⟩) Mr rfl rfl rfl (BJ rfl) (.nil) sB rfl (Af<|Ai (AA 0 _ De rfl rfl) fun _=>Ah<|Ba (Bw (φs:=[.fnv (.func Da) [] [], .fnv (.func Dv) [] [], .fnv (.func Du) [] []]) 3600040 (.cons B3<| .cons B3<| .cons B3<| .nil) rfl rfl sB (js:=[3600040,3600041,3600042]) rfl)<|Ai (AT (Ag rfl) (Ag rfl) rfl rfl rfl rfl) fun _=>Ac<|Ay () (.cons (D9 rfl rfl rfl rfl)<| .nil) sB) (fun p21=>Au sB rfl (.one rfl) sB sB) (.one fun p21=>Ai (EX (l:=[[3600040,3600041,3600042]]) 20001031 (.cons (Ag rfl) rfl<| .nil) rfl rfl) fun _=>Ba (Bw (φs:=[.val Ak [100,114,111,112], .own 20001031]) 3401280 (.cons Df<| .cons (Ag rfl)<| .nil) rfl rfl sB (js:=[3401280,3401281]) rfl)<|
 Ai (AT (Ag rfl) (Ag rfl) rfl rfl rfl rfl) fun _=>Ad (Aq En)<|Ac<|BR (js:=[3401280,3401281]) 3560080 2 rfl rfl rfl rfl<|BQ 3560120 3 rfl rfl rfl<|Ay (.inr (.inr (.inr (.inr (.inl (())))))) (.cons (Ei (js:=[3401280,3401281]) (j:=2) (j':=3560080) rfl rfl rfl rfl rfl)<| .cons (CU rfl)<| .nil) sB)) (Af<|Aj (Aw rfl (Ag rfl) AK) fun x22=>Ab rfl<|Ac<|Aa.cond (Ag rfl) (Af<|Aa.inl (τ:=Unit) (φs:=[]) (n:=1) (L:=[(2, .cp 2 0)]) (Γr:=(fun p23=>⟨[H5],[(1, .cells [(53, .val Ae a)]),Co,Ce,Fx,Bo,Bn,Bm]⟩)) 2100000 (fun p23=>⟨[O2,(2, .cp 2 0)],[(1, .cells [(53, .val Ae a)]),Co,Ce,Bo,Bn,Bm]⟩) HM rfl rfl rfl (BJ rfl) (.nil) sB rfl (Af<|Ai (AA 0 _ De rfl rfl) fun _=>Ah<|Ba (Bw (φs:=[.fnv (.func Ct) [] [], .fnv (.func C4) [] [], .fnv (.func C3) [] []]) 3600040 (.cons B3<| .cons B3<| .cons B3<| .nil) rfl rfl sB (js:=[3600040,3600041,3600042]) rfl)<|Ai (AT (Ag rfl) (Ag rfl) rfl rfl rfl rfl) fun _=>Ac<|Ay () (.cons (D9 rfl rfl rfl rfl)<| .nil) sB) (fun p23=>Au sB rfl (.one rfl) sB sB) (.one fun p23=>Aa.inl (τ:=Unit) (φs:=[]) (n:=1) (L:=[(2, .cp 2 0),O2]) (Γr:=(fun p24=>⟨[O4],[(1, .cells [(53, .val Ae a)]),Co,Ce,Fx,nT,Bo,Bn,Bm,BV,BU,BT]⟩)) 2100000 (fun p24=>⟨[nU,(2, .cp 2 0),O2],[(1, .cells [(53, .val Ae a)]),Co,Ce,Bo,Bn,Bm,BV,BU,BT]⟩) BL rfl rfl rfl (BJ rfl) (.nil) sB rfl (Af<|Ai (AA 0 _ De rfl rfl) fun _=>Ah<|Ba (Bw (φs:=[.fnv (.func AS) [] [], .fnv (.func AW) [] [], .fnv (.func AU) [] []]) 13600040 (.cons B3<| .cons B3<| .cons B3<| .nil) rfl rfl sB (js:=[13600040,13600041,13600042]) rfl)<|Ai (AT (Ag rfl) (Ag rfl) rfl rfl rfl rfl) fun _=>
 Ac<|Ay () (.cons (D9 rfl rfl rfl rfl)<| .nil) sB) (fun p24=>Au sB rfl (.one rfl) sB sB) (.one fun p24=>Ai (EX (l:=[[3600040,3600041,3600042],[13600040,13600041,13600042]]) 20001037 (.cons (Ag rfl) rfl<| .cons (Ag rfl) rfl<| .nil) rfl rfl) fun _=>Ba (Bw (φs:=[.val Ak [112,97,115,115], .own 20001037]) 3401520 (.cons Df<| .cons (Ag rfl)<| .nil) rfl rfl sB (js:=[3401520,3401521]) rfl)<|Ai (AT (Ag rfl) (Ag rfl) rfl rfl rfl rfl) fun _=>Ad (Aq En)<|Ac<|BR (js:=[3401520,3401521]) 3560080 2 rfl rfl rfl rfl<|BQ 3560120 3 rfl rfl rfl<|Ay (.inr (.inr (.inr (.inr (.inr (.inl (()))))))) (.cons (Ei (js:=[3401520,3401521]) (j:=2) (j':=3560080) rfl rfl rfl rfl rfl)<| .cons (CU rfl)<| .nil) sB))) (Aa.skip<|AB<|Ah<|Ba (cC (zero:=[.s [], .nils]) (φs:=[.val Ak Ak.z, .con (.nils)]) 3401560 (fun _ _ _ _=>⟨(.inr ⟨rfl,Ak.hz _ _⟩),⟨rfl,rfl,rfl⟩,trivial⟩) rfl rfl sB (js:=[3401560,3401561]) rfl)<|Ai (AT (Ag rfl) (Ag rfl) rfl rfl rfl rfl) fun _=>Ad (Aq En)<|Ac<|BR (js:=[3401560,3401561]) 3560080 2 rfl rfl rfl rfl<|BQ 3560120 3 rfl rfl rfl<|Ay (.inr (.inr (.inr (.inr (.inr (.inr (()))))))) (.cons (Ei (js:=[3401560,3401561]) (j:=2) (j':=3560080) rfl rfl rfl rfl rfl)<| .cons (CU rfl)<| .nil) sB))))))) (DJ (fun p2=>Au sB rfl (.kvs rfl (by intro i p h;match i,h with|0,h=>(cases h;rfl)|1,h=>(cases h;rfl)|(_+2),h=>simp at h)) sB sB) (DJ (fun p3=>Au sB rfl (.kvs rfl (by intro i p h;match i,h with|0,h=>(cases h;rfl)|1,h=>(cases h;rfl)|(_+2),h=>simp at h)) sB sB) (DJ (fun p4=>Au sB rfl (.kvs rfl (by intro i p h;match i,h with|0,h=>(cases h;rfl)|1,h=>(cases h;rfl)|(_+2),h=>simp at h)) sB sB) (DJ (fun p5=>Au sB rfl (.kvs rfl (by intro i p h;match i,h with|0,h=>(cases h;rfl)|1,h=>(cases h;rfl)|(_+2),h=>simp at h)) sB sB) (DJ (fun p6=>Au sB rfl (.kvs rfl (by intro i p h;match i,h with|0,h=>(cases h;rfl)|1,h=>(cases h;rfl)|(_+2),h=>simp at h)) sB sB) (DJ (fun p7=>Au sB rfl (.kvs rfl (by intro i p h;match i,h with|0,h=>(cases h;rfl)|1,h=>(cases h;rfl)|(_+2),h=>simp at h)) sB sB) (fun p8=>Au sB rfl (.kvs rfl (by intro i p h;match i,h with|0,h=>(cases h;rfl)|1,h=>(cases h;rfl)|(_+2),h=>simp at h)) sB sB))))))) (.alt (.one fun p2=>
 Ab rfl<|Ad (BA (Ag rfl) rfl)<|Ad (BA (Ag rfl) rfl)<|Ai (AA 3 _ Iq rfl rfl) fun _=>Ai (AT (Ag rfl) (Bh rfl rfl) rfl rfl rfl rfl) fun _=>Ad (Aq (Bh rfl rfl))<|Ah<|Af<|Ad (A6 (Ag rfl))<|Ad (Bp (Ag rfl) rfl rfl rfl)<|Ad (ES (n:=1) (Bh rfl rfl) rfl rfl)<|Ad (Aq AK)<|Ac<|A4<|AP (Γ':=⟨[(1, .cp 1 0),(4, .val T.b true),(14, .kv 3400361),O1,Jo],[(1, .cells [(53, .val Ae a)]),JI,CD,CC,CB,JH]⟩) sB rfl<|Af<|Ad (Br (t:=T.b) (y:=true) (Aw rfl (Ag rfl) (Ag rfl)) rfl)<|Ah<|B7 (Ag rfl)<|Aa.skip<|Ah<|A4<|Af<|Ad (DK (i:=0) (Bh rfl rfl) rfl rfl (Ag rfl) rfl (by decide))<|Ad (Fw (Ag rfl) rfl rfl rfl)<|Ai (AA 6 _ De rfl rfl) fun _=>Ai (AT (Ag rfl) (Ag rfl) rfl rfl rfl rfl) fun _=>Ac<|Ad (A6 (Ag rfl))<|Ad (Bp (Ag rfl) rfl rfl rfl)<|Aa.inl (τ:=Ao) (φs:=[.cp 1 0]) (n:=1) (L:=[(1, .cp 1 0),(4, .val T.b true),(14, .kv 3400361),O1,Jo]) (Γr:=(fun p25=>⟨[(0, .val T.b true)],[(1, .cells [(53, .val Ae p25)]),Ce,YX,(2000014, .ghost (.kv 3400361)),wH,YW,JI,CD,CC,CB,JH]⟩)) 2000000 (fun p25=>⟨[(22, .val T.b true),(1, .cp 1 0),(4, .val T.b true),(14, .kv 3400361),O1,Jo],[(1, .cells [(53, .val Ae p25)]),JI,CD,CC,CB,JH]⟩) HN rfl rfl rfl (CG (Bh rfl rfl) rfl) (.cons (IX (Ag rfl))<| .nil) sB rfl (Af<|Ad (Aq En)<|Ah<|Ab rfl<|Ad (Bv (Ag rfl))<|Ad (A6 (Ag rfl))<|Ai (Bj (Ag rfl) (HD (t:=T.u8)) rfl rfl AI rfl) fun x26=>Ah<|Ad (Aq En)<|Ac<|Ay x26 (.cons (CU rfl)<| .nil) sB) (fun p25=>Au sB rfl (.one rfl) trivial sB) (.one fun p25=>Ab rfl<|Aa.and 1 rfl rfl rfl (AX (Aq (Ag rfl))<|Bt.nil (Ag rfl)) fun x27=>Ab rfl<|AB<|Ac<|Ad (Br (t:=T.int .i64) (y:=(1:Int)) (Bf (I:=(IT.int .i64)) (Ag rfl) AK) rfl)<|
 Ab rfl<|Ac<|AP (Γ':=⟨[(1, .cp 1 0),(4, .val T.b x27),(14, .kv 3400361),O1,O0],[(1, .cells [(53, .val Ae p25)]),JI,CD,CC,CB,JH]⟩) sB rfl<|Af<|Ad (Br (t:=T.b) (y:=false) (Aw rfl (Ag rfl) (Ag rfl)) rfl)<|Ah<|C9 (Ag rfl)<|AH<|AH<|Bd<|Ah<|Ab rfl<|Ab rfl<|Aa.and 5 rfl rfl rfl (BD (AE (t:=Ae) (u:=Ae) (Ag rfl) rfl rfl (At _) rfl rfl) fun x28=>AX (A6 (Ag rfl))<|BD (AE (t:=Ae) (u:=(T.int .i64)) (Ag rfl) rfl rfl AN rfl rfl) fun x29=>B9 (CZ rfl rfl (.cons AN rfl (Ag rfl)<| .nil _)) fun x30=>Bt.op (AD FP (.cons (Ag rfl)<| .one (Ag rfl))) fun x31=>Bt.nil (Ag rfl)) fun x32=>Ab rfl<|Ac<|Aa.ret (.one (A8 rfl)))) (.alt (.one fun p3=>Ab rfl<|Ad (BA (Ag rfl) rfl)<|Ad (BA (Ag rfl) rfl)<|Ai (AA 3 _ Iq rfl rfl) fun _=>Ai (AT (Ag rfl) (Bh rfl rfl) rfl rfl rfl rfl) fun _=>Ad (Aq (Bh rfl rfl))<|Ah<|Af<|Ad (A6 (Ag rfl))<|Ad (Bp (Ag rfl) rfl rfl rfl)<|Ad (ES (n:=3) (Bh rfl rfl) rfl rfl)<|Ad (Aq AK)<|Ac<|A4<|AP (Γ':=⟨[(1, .cp 1 0),(4, .val T.b true),(14, .kv 3400641),Q8,Jo],[(1, .cells [(53, .val Ae a)]),Fc,Bo,Bn,Bm,CY,CX,CW,Fb,DO,DN,DM]⟩) sB rfl<|Af<|Ad (Br (t:=T.b) (y:=true) (Aw rfl (Ag rfl) (Ag rfl)) rfl)<|Ah<|B7 (Ag rfl)<|Aa.skip<|Ah<|A4<|Af<|Ad (DK (i:=0) (Bh rfl rfl) rfl rfl (Ag rfl) rfl (by decide))<|Ad (Fw (Ag rfl) rfl rfl rfl)<|Ai (AA 6 _ De rfl rfl) fun _=>Ai (AT (Ag rfl) (Ag rfl) rfl rfl rfl rfl) fun _=>Ac<|Ad (A6 (Ag rfl))<|Ad (Bp (Ag rfl) rfl rfl rfl)<|Aa.inl (τ:=(Bool×Ao)) (φs:=[.cp 1 0]) (n:=1) (L:=[(1, .cp 1 0),(4, .val T.b true),(14, .kv 3400641),Q8,Jo]) (Γr:=(fun p33=>⟨[(0, .val T.b p33.1)],[(1, .cells [(53, .val Ae p33.2)]),Ce,YX,wG,wF,YW,Fc,Bo,Bn,Bm,CY,CX,CW,Fb,DO,DN,DM]⟩)) 2000000 (fun p33=>⟨[(22, .val T.b p33.1),(1, .cp 1 0),(4, .val T.b true),(14, .kv 3400641),Q8,Jo],[(1, .cells [(53, .val Ae p33.2)]),Fc,Bo,Bn,Bm,CY,CX,CW,Fb,DO,DN,DM]⟩) Sa rfl rfl rfl (CG (Bh rfl rfl) rfl) (.cons (IX (Ag rfl))<| .nil) sB rfl (
 Af<|Ad (Aq En)<|Ah<|Ab rfl<|Ad (Bv (Ag rfl))<|Ad (A6 (Ag rfl))<|An (AE (t:=Ae) (u:=Al) (Ag rfl) rfl rfl BB rfl rfl) fun x34=>Aa.op (AD IY (.one (Ag rfl))) fun x35=>Ab rfl<|Ah<|Ab rfl<|Aj (CZ rfl rfl (.nil _)) fun x36=>Ad (Bv (Ag rfl))<|Ad (A6 (Ag rfl))<|Ai (Bj (Ag rfl) (Ag rfl) rfl rfl BB rfl) fun x37=>Ah<|Ab rfl<|Ab rfl<|Ac<|Ay (x35,x37) (.cons (CU rfl)<| .nil) sB) (fun p33=>Au sB rfl (.one rfl) trivial sB) (.one fun p33=>Ab rfl<|Aa.and 1 rfl rfl rfl (AX (Aq (Ag rfl))<|Bt.nil (Ag rfl)) fun x38=>Ab rfl<|AB<|Ac<|Ad (Br (t:=T.int .i64) (y:=(1:Int)) (Bf (I:=(IT.int .i64)) (Ag rfl) AK) rfl)<|Ab rfl<|Ac<|AP (Γ':=⟨[(1, .cp 1 0),(4, .val T.b x38),(14, .kv 3400641),Q8,O0],[(1, .cells [(53, .val Ae p33.2)]),Fc,Bo,Bn,Bm,CY,CX,CW,Fb,DO,DN,DM]⟩) sB rfl<|Af<|Ad (Br (t:=T.b) (y:=true) (Aw rfl (Ag rfl) (Ag rfl)) rfl)<|Ah<|B7 (Ag rfl)<|Aa.skip<|Ah<|A4<|Af<|Ad (DK (i:=1) (Bh rfl rfl) rfl rfl (Ag rfl) rfl (by decide))<|Ad (Fw (Ag rfl) rfl rfl rfl)<|Ai (AA 6 _ De rfl rfl) fun _=>Ai (AT (Ag rfl) (Ag rfl) rfl rfl rfl rfl) fun _=>Ac<|Ad (A6 (Ag rfl))<|Ad (Bp (Ag rfl) rfl rfl rfl)<|Aa.inl (τ:=Ao) (φs:=[.cp 1 0]) (n:=1) (L:=[(1, .cp 1 0),(4, .val T.b x38),(14, .kv 3400641),Q8,O0]) (Γr:=(fun p39=>⟨[(0, .val T.b true)],[(1, .cells [(53, .val Ae p39)]),Ce,(2000004, .ghost (.val T.b x38)),wG,wF,wE,Fc,Bo,Bn,Bm,CY,CX,CW,Fb,DO,DN,DM]⟩)) 2000000 (fun p39=>⟨[(22, .val T.b true),(1, .cp 1 0),(4, .val T.b x38),(14, .kv 3400641),Q8,O0],[(1, .cells [(53, .val Ae p39)]),Fc,Bo,Bn,Bm,CY,CX,CW,Fb,DO,DN,DM]⟩) Q6 rfl rfl rfl (CG (Bh rfl rfl) rfl) (.cons (IX (Ag rfl))<| .nil) sB rfl (
 Af<|Ad (Aq En)<|Ah<|Ab rfl<|An (NK (t:=T.u8) (⟨[0,0,0,0,0,0,0,0,0,0,0,0,0,0,0,0,0,0,0,0,0,0,0,0,0,0,0,0,0,0,0,0],rfl⟩:(Ar UInt8 32)) rfl (.nil _)) fun x40=>Ad (Bv (Ag rfl))<|Ad (A6 (Ag rfl))<|Ai (Bj (Ag rfl) (Ag rfl) rfl rfl Cf rfl) fun x41=>Ah<|Ad (Aq En)<|Ac<|Ay x41 (.cons (CU rfl)<| .nil) sB) (fun p39=>Au sB rfl (.one rfl) trivial sB) (.one fun p39=>Ab rfl<|Aa.and 1 rfl rfl rfl (AX (Aq (Ag rfl))<|Bt.nil (Ag rfl)) fun x42=>Ab rfl<|AB<|Ac<|Ad (Br (t:=T.int .i64) (y:=(2:Int)) (Bf (I:=(IT.int .i64)) (Ag rfl) AK) rfl)<|Ab rfl<|Ac<|AP (Γ':=⟨[(1, .cp 1 0),(4, .val T.b x42),(14, .kv 3400641),Q8,gU],[(1, .cells [(53, .val Ae p39)]),Fc,Bo,Bn,Bm,CY,CX,CW,Fb,DO,DN,DM]⟩) sB rfl<|Af<|Ad (Br (t:=T.b) (y:=true) (Aw rfl (Ag rfl) (Ag rfl)) rfl)<|Ah<|B7 (Ag rfl)<|Aa.skip<|Ah<|A4<|Af<|Ad (DK (i:=2) (Bh rfl rfl) rfl rfl (Ag rfl) rfl (by decide))<|Ad (Fw (Ag rfl) rfl rfl rfl)<|Ai (AA 6 _ De rfl rfl) fun _=>Ai (AT (Ag rfl) (Ag rfl) rfl rfl rfl rfl) fun _=>Ac<|Ad (A6 (Ag rfl))<|Ad (Bp (Ag rfl) rfl rfl rfl)<|Aa.inl (τ:=Ao) (φs:=[.cp 1 0]) (n:=1) (L:=[(1, .cp 1 0),(4, .val T.b x42),(14, .kv 3400641),Q8,gU]) (Γr:=(fun p43=>⟨[(0, .val T.b true)],[(1, .cells [(53, .val Ae p43)]),Ce,(2000004, .ghost (.val T.b x42)),wG,wF,(2000016, .ghost (.val (T.int .i64) (2:Int))),Fc,Bo,Bn,Bm,CY,CX,CW,Fb,DO,DN,DM]⟩)) 2000000 (fun p43=>⟨[(22, .val T.b true),(1, .cp 1 0),(4, .val T.b x42),(14, .kv 3400641),Q8,gU],[(1, .cells [(53, .val Ae p43)]),Fc,Bo,Bn,Bm,CY,CX,CW,Fb,DO,DN,DM]⟩) HN rfl rfl rfl (CG (Bh rfl rfl) rfl) (.cons (IX (Ag rfl))<| .nil) sB rfl (
 Af<|Ad (Aq En)<|Ah<|Ab rfl<|Ad (Bv (Ag rfl))<|Ad (A6 (Ag rfl))<|Ai (Bj (Ag rfl) (HD (t:=T.u8)) rfl rfl AI rfl) fun x44=>Ah<|Ad (Aq En)<|Ac<|Ay x44 (.cons (CU rfl)<| .nil) sB) (fun p43=>Au sB rfl (.one rfl) trivial sB) (.one fun p43=>Ab rfl<|Aa.and 1 rfl rfl rfl (AX (Aq (Ag rfl))<|Bt.nil (Ag rfl)) fun x45=>Ab rfl<|AB<|Ac<|Ad (Br (t:=T.int .i64) (y:=(3:Int)) (Bf (I:=(IT.int .i64)) (Ag rfl) AK) rfl)<|Ab rfl<|Ac<|AP (Γ':=⟨[(1, .cp 1 0),(4, .val T.b x45),(14, .kv 3400641),Q8,(16, .val (T.int .i64) (3:Int))],[(1, .cells [(53, .val Ae p43)]),Fc,Bo,Bn,Bm,CY,CX,CW,Fb,DO,DN,DM]⟩) sB rfl<|Af<|Ad (Br (t:=T.b) (y:=false) (Aw rfl (Ag rfl) (Ag rfl)) rfl)<|Ah<|C9 (Ag rfl)<|AH<|AH<|Bd<|Ah<|Ab rfl<|Ab rfl<|Aa.and 5 rfl rfl rfl (BD (AE (t:=Ae) (u:=Ae) (Ag rfl) rfl rfl (At _) rfl rfl) fun x46=>AX (A6 (Ag rfl))<|BD (AE (t:=Ae) (u:=(T.int .i64)) (Ag rfl) rfl rfl AN rfl rfl) fun x47=>B9 (CZ rfl rfl (.cons AN rfl (Ag rfl)<| .nil _)) fun x48=>Bt.op (AD FP (.cons (Ag rfl)<| .one (Ag rfl))) fun x49=>Bt.nil (Ag rfl)) fun x50=>Ab rfl<|Ac<|Aa.ret (.one (A8 rfl)))))) (.alt (.one fun p4=>Ab rfl<|Ad (BA (Ag rfl) rfl)<|Ad (BA (Ag rfl) rfl)<|Ai (AA 3 _ Iq rfl rfl) fun _=>Ai (AT (Ag rfl) (Bh rfl rfl) rfl rfl rfl rfl) fun _=>Ad (Aq (Bh rfl rfl))<|Ah<|Af<|Ad (A6 (Ag rfl))<|Ad (Bp (Ag rfl) rfl rfl rfl)<|Ad (ES (n:=2) (Bh rfl rfl) rfl rfl)<|Ad (Aq AK)<|Ac<|A4<|AP (Γ':=⟨[(1, .cp 1 0),(4, .val T.b true),(14, .kv 3400881),Ms,Jo],[(1, .cells [(53, .val Ae a)]),Hg,DG,DF,DE,BV,BU,BT,Hf]⟩) sB rfl<|Af<|Ad (Br (t:=T.b) (y:=true) (Aw rfl (Ag rfl) (Ag rfl)) rfl)<|
 Ah<|B7 (Ag rfl)<|Aa.skip<|Ah<|A4<|Af<|Ad (DK (i:=0) (Bh rfl rfl) rfl rfl (Ag rfl) rfl (by decide))<|Ad (Fw (Ag rfl) rfl rfl rfl)<|Ai (AA 6 _ De rfl rfl) fun _=>Ai (AT (Ag rfl) (Ag rfl) rfl rfl rfl rfl) fun _=>Ac<|Ad (A6 (Ag rfl))<|Ad (Bp (Ag rfl) rfl rfl rfl)<|Aa.inl (τ:=Ao) (φs:=[.cp 1 0]) (n:=1) (L:=[(1, .cp 1 0),(4, .val T.b true),(14, .kv 3400881),Ms,Jo]) (Γr:=(fun p51=>⟨[(0, .val T.b true)],[(1, .cells [(53, .val Ae p51)]),Ce,YX,(2000014, .ghost (.kv 3400881)),nS,YW,Hg,DG,DF,DE,BV,BU,BT,Hf]⟩)) 2000000 (fun p51=>⟨[(22, .val T.b true),(1, .cp 1 0),(4, .val T.b true),(14, .kv 3400881),Ms,Jo],[(1, .cells [(53, .val Ae p51)]),Hg,DG,DF,DE,BV,BU,BT,Hf]⟩) Q6 rfl rfl rfl (CG (Bh rfl rfl) rfl) (.cons (IX (Ag rfl))<| .nil) sB rfl (Af<|Ad (Aq En)<|Ah<|Ab rfl<|An (NK (t:=T.u8) (⟨[0,0,0,0,0,0,0,0,0,0,0,0,0,0,0,0,0,0,0,0,0,0,0,0,0,0,0,0,0,0,0,0],rfl⟩:(Ar UInt8 32)) rfl (.nil _)) fun x52=>Ad (Bv (Ag rfl))<|Ad (A6 (Ag rfl))<|Ai (Bj (Ag rfl) (Ag rfl) rfl rfl Cf rfl) fun x53=>Ah<|Ad (Aq En)<|Ac<|Ay x53 (.cons (CU rfl)<| .nil) sB) (fun p51=>Au sB rfl (.one rfl) trivial sB) (.one fun p51=>Ab rfl<|Aa.and 1 rfl rfl rfl (AX (Aq (Ag rfl))<|Bt.nil (Ag rfl)) fun x54=>Ab rfl<|AB<|Ac<|Ad (Br (t:=T.int .i64) (y:=(1:Int)) (Bf (I:=(IT.int .i64)) (Ag rfl) AK) rfl)<|Ab rfl<|Ac<|AP (Γ':=⟨[(1, .cp 1 0),(4, .val T.b x54),(14, .kv 3400881),Ms,O0],[(1, .cells [(53, .val Ae p51)]),Hg,DG,DF,DE,BV,BU,BT,Hf]⟩) sB rfl<|Af<|Ad (Br (t:=T.b) (y:=true) (Aw rfl (Ag rfl) (Ag rfl)) rfl)<|Ah<|B7 (Ag rfl)<|Aa.skip<|Ah<|A4<|Af<|Ad (DK (i:=1) (Bh rfl rfl) rfl rfl (Ag rfl) rfl (by decide))<|
 Ad (Fw (Ag rfl) rfl rfl rfl)<|Ai (AA 6 _ De rfl rfl) fun _=>Ai (AT (Ag rfl) (Ag rfl) rfl rfl rfl rfl) fun _=>Ac<|Ad (A6 (Ag rfl))<|Ad (Bp (Ag rfl) rfl rfl rfl)<|Aa.inl (τ:=Ao) (φs:=[.cp 1 0]) (n:=1) (L:=[(1, .cp 1 0),(4, .val T.b x54),(14, .kv 3400881),Ms,O0]) (Γr:=(fun p55=>⟨[(0, .val T.b true)],[(1, .cells [(53, .val Ae p55)]),Ce,(2000004, .ghost (.val T.b x54)),(2000014, .ghost (.kv 3400881)),nS,wE,Hg,DG,DF,DE,BV,BU,BT,Hf]⟩)) 2000000 (fun p55=>⟨[(22, .val T.b true),(1, .cp 1 0),(4, .val T.b x54),(14, .kv 3400881),Ms,O0],[(1, .cells [(53, .val Ae p55)]),Hg,DG,DF,DE,BV,BU,BT,Hf]⟩) HN rfl rfl rfl (CG (Bh rfl rfl) rfl) (.cons (IX (Ag rfl))<| .nil) sB rfl (Af<|Ad (Aq En)<|Ah<|Ab rfl<|Ad (Bv (Ag rfl))<|Ad (A6 (Ag rfl))<|Ai (Bj (Ag rfl) (HD (t:=T.u8)) rfl rfl AI rfl) fun x56=>Ah<|Ad (Aq En)<|Ac<|Ay x56 (.cons (CU rfl)<| .nil) sB) (fun p55=>Au sB rfl (.one rfl) trivial sB) (.one fun p55=>Ab rfl<|Aa.and 1 rfl rfl rfl (AX (Aq (Ag rfl))<|Bt.nil (Ag rfl)) fun x57=>Ab rfl<|AB<|Ac<|Ad (Br (t:=T.int .i64) (y:=(2:Int)) (Bf (I:=(IT.int .i64)) (Ag rfl) AK) rfl)<|Ab rfl<|Ac<|AP (Γ':=⟨[(1, .cp 1 0),(4, .val T.b x57),(14, .kv 3400881),Ms,gU],[(1, .cells [(53, .val Ae p55)]),Hg,DG,DF,DE,BV,BU,BT,Hf]⟩) sB rfl<|Af<|Ad (Br (t:=T.b) (y:=false) (Aw rfl (Ag rfl) (Ag rfl)) rfl)<|Ah<|C9 (Ag rfl)<|AH<|AH<|Bd<|Ah<|Ab rfl<|Ab rfl<|Aa.and 5 rfl rfl rfl (BD (AE (t:=Ae) (u:=Ae) (Ag rfl) rfl rfl (At _) rfl rfl) fun x58=>AX (A6 (Ag rfl))<|BD (AE (t:=Ae) (u:=(T.int .i64)) (Ag rfl) rfl rfl AN rfl rfl) fun x59=>
 B9 (CZ rfl rfl (.cons AN rfl (Ag rfl)<| .nil _)) fun x60=>Bt.op (AD FP (.cons (Ag rfl)<| .one (Ag rfl))) fun x61=>Bt.nil (Ag rfl)) fun x62=>Ab rfl<|Ac<|Aa.ret (.one (A8 rfl))))) (.alt (.one fun p5=>Ab rfl<|Ad (BA (Ag rfl) rfl)<|Ad (BA (Ag rfl) rfl)<|Ai (AA 3 _ Iq rfl rfl) fun _=>Ai (AT (Ag rfl) (Bh rfl rfl) rfl rfl rfl rfl) fun _=>Ad (Aq (Bh rfl rfl))<|Ah<|Af<|Ad (A6 (Ag rfl))<|Ad (Bp (Ag rfl) rfl rfl rfl)<|Ad (ES (n:=1) (Bh rfl rfl) rfl rfl)<|Ad (Aq AK)<|Ac<|A4<|AP (Γ':=⟨[(1, .cp 1 0),(4, .val T.b true),(14, .kv 3401081),O1,Jo],[(1, .cells [(53, .val Ae a)]),JG,CD,CC,CB,JF]⟩) sB rfl<|Af<|Ad (Br (t:=T.b) (y:=true) (Aw rfl (Ag rfl) (Ag rfl)) rfl)<|Ah<|B7 (Ag rfl)<|Aa.skip<|Ah<|A4<|Af<|Ad (DK (i:=0) (Bh rfl rfl) rfl rfl (Ag rfl) rfl (by decide))<|Ad (Fw (Ag rfl) rfl rfl rfl)<|Ai (AA 6 _ De rfl rfl) fun _=>Ai (AT (Ag rfl) (Ag rfl) rfl rfl rfl rfl) fun _=>Ac<|Ad (A6 (Ag rfl))<|Ad (Bp (Ag rfl) rfl rfl rfl)<|Aa.inl (τ:=Ao) (φs:=[.cp 1 0]) (n:=1) (L:=[(1, .cp 1 0),(4, .val T.b true),(14, .kv 3401081),O1,Jo]) (Γr:=(fun p63=>⟨[(0, .val T.b true)],[(1, .cells [(53, .val Ae p63)]),Ce,YX,(2000014, .ghost (.kv 3401081)),wH,YW,JG,CD,CC,CB,JF]⟩)) 2000000 (fun p63=>⟨[(22, .val T.b true),(1, .cp 1 0),(4, .val T.b true),(14, .kv 3401081),O1,Jo],[(1, .cells [(53, .val Ae p63)]),JG,CD,CC,CB,JF]⟩) HN rfl rfl rfl (CG (Bh rfl rfl) rfl) (.cons (IX (Ag rfl))<| .nil) sB rfl (Af<|Ad (Aq En)<|Ah<|Ab rfl<|Ad (Bv (Ag rfl))<|Ad (A6 (Ag rfl))<|Ai (Bj (Ag rfl) (HD (t:=T.u8)) rfl rfl AI rfl) fun x64=>Ah<|Ad (Aq En)<|
 Ac<|Ay x64 (.cons (CU rfl)<| .nil) sB) (fun p63=>Au sB rfl (.one rfl) trivial sB) (.one fun p63=>Ab rfl<|Aa.and 1 rfl rfl rfl (AX (Aq (Ag rfl))<|Bt.nil (Ag rfl)) fun x65=>Ab rfl<|AB<|Ac<|Ad (Br (t:=T.int .i64) (y:=(1:Int)) (Bf (I:=(IT.int .i64)) (Ag rfl) AK) rfl)<|Ab rfl<|Ac<|AP (Γ':=⟨[(1, .cp 1 0),(4, .val T.b x65),(14, .kv 3401081),O1,O0],[(1, .cells [(53, .val Ae p63)]),JG,CD,CC,CB,JF]⟩) sB rfl<|Af<|Ad (Br (t:=T.b) (y:=false) (Aw rfl (Ag rfl) (Ag rfl)) rfl)<|Ah<|C9 (Ag rfl)<|AH<|AH<|Bd<|Ah<|Ab rfl<|Ab rfl<|Aa.and 5 rfl rfl rfl (BD (AE (t:=Ae) (u:=Ae) (Ag rfl) rfl rfl (At _) rfl rfl) fun x66=>AX (A6 (Ag rfl))<|BD (AE (t:=Ae) (u:=(T.int .i64)) (Ag rfl) rfl rfl AN rfl rfl) fun x67=>B9 (CZ rfl rfl (.cons AN rfl (Ag rfl)<| .nil _)) fun x68=>Bt.op (AD FP (.cons (Ag rfl)<| .one (Ag rfl))) fun x69=>Bt.nil (Ag rfl)) fun x70=>Ab rfl<|Ac<|Aa.ret (.one (A8 rfl)))) (.alt (.one fun p6=>Ab rfl<|Ad (BA (Ag rfl) rfl)<|Ad (BA (Ag rfl) rfl)<|Ai (AA 3 _ Iq rfl rfl) fun _=>Ai (AT (Ag rfl) (Bh rfl rfl) rfl rfl rfl rfl) fun _=>Ad (Aq (Bh rfl rfl))<|Ah<|Af<|Ad (A6 (Ag rfl))<|Ad (Bp (Ag rfl) rfl rfl rfl)<|Ad (ES (n:=1) (Bh rfl rfl) rfl rfl)<|Ad (Aq AK)<|Ac<|A4<|AP (Γ':=⟨[(1, .cp 1 0),(4, .val T.b true),(14, .kv 3401281),O1,Jo],[(1, .cells [(53, .val Ae a)]),JE,GB,GA,G9,JD]⟩) sB rfl<|Af<|Ad (Br (t:=T.b) (y:=true) (Aw rfl (Ag rfl) (Ag rfl)) rfl)<|Ah<|B7 (Ag rfl)<|Aa.skip<|Ah<|A4<|Af<|Ad (DK (i:=0) (Bh rfl rfl) rfl rfl (Ag rfl) rfl (by decide))<|Ad (Fw (Ag rfl) rfl rfl rfl)<|Ai (AA 6 _ De rfl rfl) fun _=>
 Ai (AT (Ag rfl) (Ag rfl) rfl rfl rfl rfl) fun _=>Ac<|Ad (A6 (Ag rfl))<|Ad (Bp (Ag rfl) rfl rfl rfl)<|Aa.inl (τ:=(Bool×Ao)) (φs:=[.cp 1 0]) (n:=1) (L:=[(1, .cp 1 0),(4, .val T.b true),(14, .kv 3401281),O1,Jo]) (Γr:=(fun p71=>⟨[(0, .val T.b p71.1)],[(1, .cells [(53, .val Ae p71.2)]),Ce,YX,(2000014, .ghost (.kv 3401281)),wH,YW,JE,GB,GA,G9,JD]⟩)) 2000000 (fun p71=>⟨[(22, .val T.b p71.1),(1, .cp 1 0),(4, .val T.b true),(14, .kv 3401281),O1,Jo],[(1, .cells [(53, .val Ae p71.2)]),JE,GB,GA,G9,JD]⟩) Yc rfl rfl rfl (CG (Bh rfl rfl) rfl) (.cons (IX (Ag rfl))<| .nil) sB rfl (Af<|Ad (Aq En)<|Ah<|Ab rfl<|Ad (Bv (Ag rfl))<|Ad (A6 (Ag rfl))<|An (AE (t:=Ae) (u:=(T.int .i64)) (Ag rfl) rfl rfl BN rfl rfl) fun x72=>Aa.op (AD Ru (.one (Ag rfl))) fun x73=>Ab rfl<|Ah<|Ab rfl<|Ad (Bv (Ag rfl))<|Ad (A6 (Ag rfl))<|Ai (Bj (Ag rfl) AK rfl rfl BN rfl) fun x74=>Ah<|Ab rfl<|Ab rfl<|Ac<|Ay (x73,x74) (.cons (CU rfl)<| .nil) sB) (fun p71=>Au sB rfl (.one rfl) trivial sB) (.one fun p71=>Ab rfl<|Aa.and 1 rfl rfl rfl (AX (Aq (Ag rfl))<|Bt.nil (Ag rfl)) fun x75=>Ab rfl<|AB<|Ac<|Ad (Br (t:=T.int .i64) (y:=(1:Int)) (Bf (I:=(IT.int .i64)) (Ag rfl) AK) rfl)<|Ab rfl<|Ac<|AP (Γ':=⟨[(1, .cp 1 0),(4, .val T.b x75),(14, .kv 3401281),O1,O0],[(1, .cells [(53, .val Ae p71.2)]),JE,GB,GA,G9,JD]⟩) sB rfl<|Af<|Ad (Br (t:=T.b) (y:=false) (Aw rfl (Ag rfl) (Ag rfl)) rfl)<|Ah<|C9 (Ag rfl)<|AH<|AH<|Bd<|Ah<|Ab rfl<|Ab rfl<|Aa.and 5 rfl rfl rfl (BD (AE (t:=Ae) (u:=Ae) (Ag rfl) rfl rfl (At _) rfl rfl) fun x76=>AX (A6 (Ag rfl))<|BD (AE (t:=Ae) (u:=(T.int .i64)) (Ag rfl) rfl rfl AN rfl rfl) fun x77=>
 B9 (CZ rfl rfl (.cons AN rfl (Ag rfl)<| .nil _)) fun x78=>Bt.op (AD FP (.cons (Ag rfl)<| .one (Ag rfl))) fun x79=>Bt.nil (Ag rfl)) fun x80=>Ab rfl<|Ac<|Aa.ret (.one (A8 rfl)))) (.alt (.one fun p7=>Ab rfl<|Ad (BA (Ag rfl) rfl)<|Ad (BA (Ag rfl) rfl)<|Ai (AA 3 _ Iq rfl rfl) fun _=>Ai (AT (Ag rfl) (Bh rfl rfl) rfl rfl rfl rfl) fun _=>Ad (Aq (Bh rfl rfl))<|Ah<|Af<|Ad (A6 (Ag rfl))<|Ad (Bp (Ag rfl) rfl rfl rfl)<|Ad (ES (n:=2) (Bh rfl rfl) rfl rfl)<|Ad (Aq AK)<|Ac<|A4<|AP (Γ':=⟨[(1, .cp 1 0),(4, .val T.b true),(14, .kv 3401521),Ms,Jo],[(1, .cells [(53, .val Ae a)]),He,Bo,Bn,Bm,BV,BU,BT,Hd]⟩) sB rfl<|Af<|Ad (Br (t:=T.b) (y:=true) (Aw rfl (Ag rfl) (Ag rfl)) rfl)<|Ah<|B7 (Ag rfl)<|Aa.skip<|Ah<|A4<|Af<|Ad (DK (i:=0) (Bh rfl rfl) rfl rfl (Ag rfl) rfl (by decide))<|Ad (Fw (Ag rfl) rfl rfl rfl)<|Ai (AA 6 _ De rfl rfl) fun _=>Ai (AT (Ag rfl) (Ag rfl) rfl rfl rfl rfl) fun _=>Ac<|Ad (A6 (Ag rfl))<|Ad (Bp (Ag rfl) rfl rfl rfl)<|Aa.inl (τ:=(Bool×Ao)) (φs:=[.cp 1 0]) (n:=1) (L:=[(1, .cp 1 0),(4, .val T.b true),(14, .kv 3401521),Ms,Jo]) (Γr:=(fun p81=>⟨[(0, .val T.b p81.1)],[(1, .cells [(53, .val Ae p81.2)]),Ce,YX,(2000014, .ghost (.kv 3401521)),nS,YW,He,Bo,Bn,Bm,BV,BU,BT,Hd]⟩)) 2000000 (fun p81=>⟨[(22, .val T.b p81.1),(1, .cp 1 0),(4, .val T.b true),(14, .kv 3401521),Ms,Jo],[(1, .cells [(53, .val Ae p81.2)]),He,Bo,Bn,Bm,BV,BU,BT,Hd]⟩) Sa rfl rfl rfl (CG (Bh rfl rfl) rfl) (.cons (IX (Ag rfl))<| .nil) sB rfl (Af<|Ad (Aq En)<|Ah<|Ab rfl<|Ad (Bv (Ag rfl))<|Ad (A6 (Ag rfl))<|An (AE (t:=Ae) (u:=Al) (Ag rfl) rfl rfl BB rfl rfl) fun x82=>
 Aa.op (AD IY (.one (Ag rfl))) fun x83=>Ab rfl<|Ah<|Ab rfl<|Aj (CZ rfl rfl (.nil _)) fun x84=>Ad (Bv (Ag rfl))<|Ad (A6 (Ag rfl))<|Ai (Bj (Ag rfl) (Ag rfl) rfl rfl BB rfl) fun x85=>Ah<|Ab rfl<|Ab rfl<|Ac<|Ay (x83,x85) (.cons (CU rfl)<| .nil) sB) (fun p81=>Au sB rfl (.one rfl) trivial sB) (.one fun p81=>Ab rfl<|Aa.and 1 rfl rfl rfl (AX (Aq (Ag rfl))<|Bt.nil (Ag rfl)) fun x86=>Ab rfl<|AB<|Ac<|Ad (Br (t:=T.int .i64) (y:=(1:Int)) (Bf (I:=(IT.int .i64)) (Ag rfl) AK) rfl)<|Ab rfl<|Ac<|AP (Γ':=⟨[(1, .cp 1 0),(4, .val T.b x86),(14, .kv 3401521),Ms,O0],[(1, .cells [(53, .val Ae p81.2)]),He,Bo,Bn,Bm,BV,BU,BT,Hd]⟩) sB rfl<|Af<|Ad (Br (t:=T.b) (y:=true) (Aw rfl (Ag rfl) (Ag rfl)) rfl)<|Ah<|B7 (Ag rfl)<|Aa.skip<|Ah<|A4<|Af<|Ad (DK (i:=1) (Bh rfl rfl) rfl rfl (Ag rfl) rfl (by decide))<|Ad (Fw (Ag rfl) rfl rfl rfl)<|Ai (AA 6 _ De rfl rfl) fun _=>Ai (AT (Ag rfl) (Ag rfl) rfl rfl rfl rfl) fun _=>Ac<|Ad (A6 (Ag rfl))<|Ad (Bp (Ag rfl) rfl rfl rfl)<|Aa.inl (τ:=Ao) (φs:=[.cp 1 0]) (n:=1) (L:=[(1, .cp 1 0),(4, .val T.b x86),(14, .kv 3401521),Ms,O0]) (Γr:=(fun p87=>⟨[(0, .val T.b true)],[(1, .cells [(53, .val Ae p87)]),Ce,(2000004, .ghost (.val T.b x86)),(2000014, .ghost (.kv 3401521)),nS,wE,He,Bo,Bn,Bm,BV,BU,BT,Hd]⟩)) 2000000 (fun p87=>⟨[(22, .val T.b true),(1, .cp 1 0),(4, .val T.b x86),(14, .kv 3401521),Ms,O0],[(1, .cells [(53, .val Ae p87)]),He,Bo,Bn,Bm,BV,BU,BT,Hd]⟩) HN rfl rfl rfl (CG (Bh rfl rfl) rfl) (.cons (IX (Ag rfl))<| .nil) sB rfl (Af<|Ad (Aq En)<|Ah<|Ab rfl<|Ad (Bv (Ag rfl))<|Ad (A6 (Ag rfl))<|
 Ai (Bj (Ag rfl) (HD (t:=T.u8)) rfl rfl AI rfl) fun x88=>Ah<|Ad (Aq En)<|Ac<|Ay x88 (.cons (CU rfl)<| .nil) sB) (fun p87=>Au sB rfl (.one rfl) trivial sB) (.one fun p87=>Ab rfl<|Aa.and 1 rfl rfl rfl (AX (Aq (Ag rfl))<|Bt.nil (Ag rfl)) fun x89=>Ab rfl<|AB<|Ac<|Ad (Br (t:=T.int .i64) (y:=(2:Int)) (Bf (I:=(IT.int .i64)) (Ag rfl) AK) rfl)<|Ab rfl<|Ac<|AP (Γ':=⟨[(1, .cp 1 0),(4, .val T.b x89),(14, .kv 3401521),Ms,gU],[(1, .cells [(53, .val Ae p87)]),He,Bo,Bn,Bm,BV,BU,BT,Hd]⟩) sB rfl<|Af<|Ad (Br (t:=T.b) (y:=false) (Aw rfl (Ag rfl) (Ag rfl)) rfl)<|Ah<|C9 (Ag rfl)<|AH<|AH<|Bd<|Ah<|Ab rfl<|Ab rfl<|Aa.and 5 rfl rfl rfl (BD (AE (t:=Ae) (u:=Ae) (Ag rfl) rfl rfl (At _) rfl rfl) fun x90=>AX (A6 (Ag rfl))<|BD (AE (t:=Ae) (u:=(T.int .i64)) (Ag rfl) rfl rfl AN rfl rfl) fun x91=>B9 (CZ rfl rfl (.cons AN rfl (Ag rfl)<| .nil _)) fun x92=>Bt.op (AD FP (.cons (Ag rfl)<| .one (Ag rfl))) fun x93=>Bt.nil (Ag rfl)) fun x94=>Ab rfl<|Ac<|Aa.ret (.one (A8 rfl))))) (.one fun p8=>Ab rfl<|Ad (BA (Ag rfl) rfl)<|Ad (BA (Ag rfl) rfl)<|Ai (AA 3 _ Iq rfl rfl) fun _=>Ai (AT (Ag rfl) (Bh rfl rfl) rfl rfl rfl rfl) fun _=>Ad (Aq (Bh rfl rfl))<|Ah<|Af<|Ad (A6 (Ag rfl))<|Ad (Bp (Ag rfl) rfl rfl rfl)<|Ad (aP (Bh rfl rfl))<|Ad (Aq AK)<|Ac<|A4<|AP (Γ':=⟨[(1, .cp 1 0),(4, .val T.b false),(14, .kv 3401561),(15, .val (T.int .i64) (0:Int)),Jo],[(1, .cells [(53, .val Ae a)]),Pt]⟩) sB rfl<|Af<|Ad (Br (t:=T.b) (y:=false) (Aw rfl (Ag rfl) (Ag rfl)) rfl)<|Ah<|C9 (Ag rfl)<|AH<|AH<|Bd<|Ah<|Ab rfl<|Ab rfl<|Aa.and 5 rfl rfl rfl (BD (AE (t:=Ae) (u:=Ae) (Ag rfl) rfl rfl (At _) rfl rfl) fun x95=>
 AX (A6 (Ag rfl))<|BD (AE (t:=Ae) (u:=(T.int .i64)) (Ag rfl) rfl rfl AN rfl rfl) fun x96=>B9 (CZ rfl rfl (.cons AN rfl (Ag rfl)<| .nil _)) fun x97=>Bt.op (AD FP (.cons (Ag rfl)<| .one (Ag rfl))) fun x98=>Bt.nil (Ag rfl)) fun x99=>Ab rfl<|Ac<|Aa.ret (.one (A8 rfl)))))))))
theorem OK:Spec tb Fl [Ae] [T.b] (fun a=>E4 a):=
 Spec.of Yg rfl rfl rfl U4
noncomputable def Ep(a0:Ao):Option (AR×Int):=(E4 a0).bind fun x2=>if(!x2)=true then some ([],1) else (if(decide (a0.Kind=1))=true then (some ():Option Unit).bind (fun(p13:Unit)=>some (.inl (()))) else if(decide (a0.Kind=2))=true then (some ():Option Unit).bind (fun(p15:Unit)=>(some ():Option Unit).bind (fun(p16:Unit)=>(some ():Option Unit).bind (fun(p17:Unit)=>some (.inr (.inl (())))))) else if(decide (a0.Kind=3))=true then (some ():Option Unit).bind (fun(p19:Unit)=>(some ():Option Unit).bind (fun(p20:Unit)=>some (.inr (.inr (.inl (())))))) else if(decide (a0.Kind=4))=true then (some ():Option Unit).bind (fun(p22:Unit)=>some (.inr (.inr (.inr (.inl (())))))) else if(decide (a0.Kind=5))=true then (some ():Option Unit).bind (fun(p24:Unit)=>some (.inr (.inr (.inr (.inr (.inl (()))))))) else if(decide (a0.Kind=6))=true then (some ():Option Unit).bind (fun(p26:Unit)=>(some ():Option Unit).bind (fun(p27:Unit)=>some (.inr (.inr (.inr (.inr (.inr (.inl (()))))))))) else some (.inr (.inr (.inr (.inr (.inr (.inr (()))))))):Option (Unit⊕(Unit⊕(Unit⊕(Unit⊕(Unit⊕(Unit⊕Unit))))))).bind (Sum.elim (fun(p5:Unit)=>(FB a0).bind fun x30=>(Sx 16 (GS.mk [[114,101,112,108,121]]) [x30]).bind fun x32=>(CA x32 [32]).bind fun x33=>some (x33,0)) (Sum.elim (fun(p6:Unit)=>(LC a0).bind fun x36=>(Sx 16 (GS.mk [[115,101,110,100]]) [x36]).bind fun x38=>(Kv a0).bind fun x40=>(Sx 16 x38 [x40]).bind fun x42=>(FB a0).bind fun x44=>(Sx 16 x42 [x44]).bind fun x46=>(CA x46 [32]).bind fun x47=>some (x47,0)) (Sum.elim (fun(p7:Unit)=>
 (Kv a0).bind fun x50=>(Sx 16 (GS.mk [[100,101,108,105,118,101,114]]) [x50]).bind fun x52=>(FB a0).bind fun x54=>(Sx 16 x52 [x54]).bind fun x56=>(CA x56 [32]).bind fun x57=>some (x57,0)) (Sum.elim (fun(p8:Unit)=>(FB a0).bind fun x60=>(Sx 16 (GS.mk [[114,101,102,117,115,101]]) [x60]).bind fun x62=>(CA x62 [32]).bind fun x63=>some (x63,0)) (Sum.elim (fun(p9:Unit)=>(Mb a0).bind fun x66=>(Sx 16 (GS.mk [[100,114,111,112]]) [x66]).bind fun x68=>(CA x68 [32]).bind fun x69=>some (x69,0)) (Sum.elim (fun(p10:Unit)=>(LC a0).bind fun x72=>(Sx 16 (GS.mk [[112,97,115,115]]) [x72]).bind fun x74=>(FB a0).bind fun x76=>(Sx 16 x74 [x76]).bind fun x78=>(CA x78 [32]).bind fun x79=>some (x79,0)) (fun(p11:Unit)=>(CA (GS.mk [[]]) [32]).bind fun x81=>some (x81,0))))))))
noncomputable def V8(a:CF [Ae]):Cz tb Lo [Ae] [Ak,(T.int .i64)] a:=Af<|Ai (Eo (t:=Ae) 1 rfl rfl (Ag rfl)) fun _=>Ad (Aq Df)<|Ad (Aq AK)<|Ah<|Af<|An (AE (t:=Ae) (u:=Ae) (Ag rfl) rfl rfl (At _) rfl rfl) fun x1=>Aa.op (AD OK (.one (Ag rfl))) fun x2=>Aj (Gs (Ag rfl)) fun x3=>Ac<|Aa.cond (Ag rfl) (Af<|Ad (Aq Df)<|Ad (Aq AK)<|Ac<|Aa.ret (.cons (A8 rfl)<| .one (A8 rfl))) (Aa.skip<|Ah<|Ad (A6 (Ag rfl))<|An (AE (t:=Ae) (u:=(T.int .i64)) (Ag rfl) rfl rfl AN rfl rfl) fun x4=>Aa.inl (τ:=(Unit⊕(Unit⊕(Unit⊕(Unit⊕(Unit⊕(Unit⊕Unit))))))) (φs:=[.val (T.int .i64) x4]) (n:=2) (L:=[(1, .cp 1 0)]) (Γr:=(Sum.elim (fun p5=>⟨[(0, .kv 3560080),(1, .kv 3560120)],[(1, .cells [(53, .val Ae a)]),Ce,Uo,JI,Un,CV,CD,CC,CB,JH]⟩) (Sum.elim (fun p6=>⟨[(0, .kv 3560080),(1, .kv 3560120)],[(1, .cells [(53, .val Ae a)]),Ce,Um,Fc,Ul,CV,Bo,Bn,Bm,CY,CX,CW,Fb,DO,DN,DM]⟩) (Sum.elim (fun p7=>⟨[(0, .kv 3560080),(1, .kv 3560120)],[(1, .cells [(53, .val Ae a)]),Ce,Uk,Hg,Uj,CV,DG,DF,DE,BV,BU,BT,Hf]⟩) (Sum.elim (fun p8=>⟨[(0, .kv 3560080),(1, .kv 3560120)],[(1, .cells [(53, .val Ae a)]),Ce,Ui,JG,Uh,CV,CD,CC,CB,JF]⟩) (Sum.elim (fun p9=>⟨[(0, .kv 3560080),(1, .kv 3560120)],[(1, .cells [(53, .val Ae a)]),Ce,Ug,JE,Uf,CV,GB,GA,G9,JD]⟩) (Sum.elim (fun p10=>⟨[(0, .kv 3560080),(1, .kv 3560120)],[(1, .cells [(53, .val Ae a)]),Ce,Ue,He,Ud,CV,Bo,Bn,Bm,BV,BU,BT,Hd]⟩) (fun p11=>⟨[(0, .kv 3560080),(1, .kv 3560120)],[(1, .cells [(53, .val Ae a)]),Ce,Uc,Pt,Ub,Ua]⟩)))))))) 2000000 (Sum.elim (fun p5=>⟨[Rk,(1, .cp 1 0)],[(1, .cells [(53, .val Ae a)]),Uo,JI,Un,CV,CD,CC,CB,JH]⟩) (Sum.elim (fun p6=>⟨[Rk,(1, .cp 1 0)],[(1, .cells [(53, .val Ae a)]),Um,Fc,Ul,CV,Bo,Bn,Bm,CY,CX,CW,Fb,DO,DN,DM]⟩) (Sum.elim (fun p7=>⟨[Rk,(1, .cp 1 0)],[(1, .cells [(53, .val Ae a)]),Uk,Hg,Uj,CV,DG,DF,DE,BV,BU,BT,Hf]⟩) (Sum.elim (fun p8=>⟨[Rk,(1, .cp 1 0)],[(1, .cells [(53, .val Ae a)]),Ui,JG,Uh,CV,CD,CC,CB,JF]⟩) (Sum.elim (fun p9=>⟨[Rk,(1, .cp 1 0)],[(1, .cells [(53, .val Ae a)]),Ug,JE,Uf,CV,GB,GA,G9,JD]⟩) (Sum.elim (fun p10=>⟨[Rk,(1, .cp 1 0)],[(1, .cells [(53, .val Ae a)]),Ue,He,Ud,CV,Bo,Bn,Bm,BV,BU,BT,Hd]⟩) (fun p11=>⟨[Rk,(1, .cp 1 0)],[(1, .cells [(53, .val Ae a)]),Uc,Pt,Ub,Ua]⟩))))))) Ix rfl rfl rfl (BJ rfl) (.cons (IX (Ag rfl))<| .nil) sB rfl (
 Af<|Ai (AA 2 _ Iq rfl rfl) fun _=>Ad (Aq En)<|Ah<|Af<|Ab rfl<|Ac<|A4<|Af<|Aj (Aw rfl (Ag rfl) AK) fun x12=>Ab rfl<|Ac<|Aa.cond (Ag rfl) (Af<|Aa.inl (τ:=Unit) (φs:=[]) (n:=1) (L:=[(2, .cp 2 0)]) (Γr:=(fun p13=>⟨[H5],[(1, .cells [(53, .val Ae a)]),Co,Ce,Fx,CD,CC,CB]⟩)) 2100000 (fun p13=>⟨[en_9,(2, .cp 2 0)],[(1, .cells [(53, .val Ae a)]),Co,Ce,CD,CC,CB]⟩) BL rfl rfl rfl (BJ rfl) (.nil) sB rfl (Af<|Ai (AA 0 _ De rfl rfl) fun _=>Ah<|Ba (Bw (φs:=[.fnv (.func AS) [] [], .fnv (.func AW) [] [], .fnv (.func AU) [] []]) 3600040 (.cons B3<| .cons B3<| .cons B3<| .nil) rfl rfl sB (js:=[3600040,3600041,3600042]) rfl)<|Ai (AT (Ag rfl) (Ag rfl) rfl rfl rfl rfl) fun _=>Ac<|Ay () (.cons (D9 rfl rfl rfl rfl)<| .nil) sB) (fun p13=>Au sB rfl (.one rfl) sB sB) (.one fun p13=>Ai (EX (l:=[[3600040,3600041,3600042]]) 20001008 (.cons (Ag rfl) rfl<| .nil) rfl rfl) fun _=>Ba (Bw (φs:=[.val Ak [114,101,112,108,121], .own 20001008]) 3400360 (.cons Df<| .cons (Ag rfl)<| .nil) rfl rfl sB (js:=[3400360,3400361]) rfl)<|Ai (AT (Ag rfl) (Ag rfl) rfl rfl rfl rfl) fun _=>Ad (Aq En)<|Ac<|BR (js:=[3400360,3400361]) 3560080 2 rfl rfl rfl rfl<|BQ 3560120 3 rfl rfl rfl<|Ay (.inl (())) (.cons (Ei (js:=[3400360,3400361]) (j:=2) (j':=3560080) rfl rfl rfl rfl rfl)<| .cons (CU rfl)<| .nil) sB)) (Af<|Aj (Aw rfl (Ag rfl) AK) fun x14=>Ab rfl<|Ac<|Aa.cond (Ag rfl) (Af<|Aa.inl (τ:=Unit) (φs:=[]) (n:=1) (L:=[(2, .cp 2 0)]) (Γr:=(fun p15=>⟨[H5],[(1, .cells [(53, .val Ae a)]),Co,Ce,Fx,Bo,Bn,Bm]⟩)) 2100000 (fun p15=>⟨[IU,(2, .cp 2 0)],[(1, .cells [(53, .val Ae a)]),Co,Ce,Bo,Bn,Bm]⟩) HM rfl rfl rfl (BJ rfl) (.nil) sB rfl (
 Af<|Ai (AA 0 _ De rfl rfl) fun _=>Ah<|Ba (Bw (φs:=[.fnv (.func Ct) [] [], .fnv (.func C4) [] [], .fnv (.func C3) [] []]) 3600040 (.cons B3<| .cons B3<| .cons B3<| .nil) rfl rfl sB (js:=[3600040,3600041,3600042]) rfl)<|Ai (AT (Ag rfl) (Ag rfl) rfl rfl rfl rfl) fun _=>Ac<|Ay () (.cons (D9 rfl rfl rfl rfl)<| .nil) sB) (fun p15=>Au sB rfl (.one rfl) sB sB) (.one fun p15=>Aa.inl (τ:=Unit) (φs:=[]) (n:=1) (L:=[(2, .cp 2 0),IU]) (Γr:=(fun p16=>⟨[O4],[(1, .cells [(53, .val Ae a)]),Co,Ce,Fx,Up,Bo,Bn,Bm,CY,CX,CW]⟩)) 2100000 (fun p16=>⟨[O5,(2, .cp 2 0),IU],[(1, .cells [(53, .val Ae a)]),Co,Ce,Bo,Bn,Bm,CY,CX,CW]⟩) G7 rfl rfl rfl (BJ rfl) (.nil) sB rfl (Af<|Ai (AA 0 _ De rfl rfl) fun _=>Ah<|Ba (Bw (φs:=[.fnv (.func BP) [] [], .fnv (.func Ci) [] [], .fnv (.func Ch) [] []]) 13600040 (.cons B3<| .cons B3<| .cons B3<| .nil) rfl rfl sB (js:=[13600040,13600041,13600042]) rfl)<|Ai (AT (Ag rfl) (Ag rfl) rfl rfl rfl rfl) fun _=>Ac<|Ay () (.cons (D9 rfl rfl rfl rfl)<| .nil) sB) (fun p16=>Au sB rfl (.one rfl) sB sB) (.one fun p16=>Aa.inl (τ:=Unit) (φs:=[]) (n:=1) (L:=[(2, .cp 2 0),IU,O5]) (Γr:=(fun p17=>⟨[oA],[(1, .cells [(53, .val Ae a)]),Co,Ce,Fx,Up,nZ,Bo,Bn,Bm,CY,CX,CW,DO,DN,DM]⟩)) 2100000 (fun p17=>⟨[oB,(2, .cp 2 0),IU,O5],[(1, .cells [(53, .val Ae a)]),Co,Ce,Bo,Bn,Bm,CY,CX,CW,DO,DN,DM]⟩) BL rfl rfl rfl (BJ rfl) (.nil) sB rfl (Af<|Ai (AA 0 _ De rfl rfl) fun _=>Ah<|Ba (Bw (φs:=[.fnv (.func AS) [] [], .fnv (.func AW) [] [], .fnv (.func AU) [] []]) 23600040 (.cons B3<| .cons B3<| .cons B3<| .nil) rfl rfl sB (js:=[23600040,23600041,23600042]) rfl)<|
 Ai (AT (Ag rfl) (Ag rfl) rfl rfl rfl rfl) fun _=>Ac<|Ay () (.cons (D9 rfl rfl rfl rfl)<| .nil) sB) (fun p17=>Au sB rfl (.one rfl) sB sB) (.one fun p17=>Ai (EX (l:=[[3600040,3600041,3600042],[13600040,13600041,13600042],[23600040,23600041,23600042]]) 20001015 (.cons (Ag rfl) rfl<| .cons (Ag rfl) rfl<| .cons (Ag rfl) rfl<| .nil) rfl rfl) fun _=>Ba (Bw (φs:=[.val Ak [115,101,110,100], .own 20001015]) 3400640 (.cons Df<| .cons (Ag rfl)<| .nil) rfl rfl sB (js:=[3400640,3400641]) rfl)<|Ai (AT (Ag rfl) (Ag rfl) rfl rfl rfl rfl) fun _=>Ad (Aq En)<|Ac<|BR (js:=[3400640,3400641]) 3560080 2 rfl rfl rfl rfl<|BQ 3560120 3 rfl rfl rfl<|Ay (.inr (.inl (()))) (.cons (Ei (js:=[3400640,3400641]) (j:=2) (j':=3560080) rfl rfl rfl rfl rfl)<| .cons (CU rfl)<| .nil) sB)))) (Af<|Aj (Aw rfl (Ag rfl) AK) fun x18=>Ab rfl<|Ac<|Aa.cond (Ag rfl) (Af<|Aa.inl (τ:=Unit) (φs:=[]) (n:=1) (L:=[(2, .cp 2 0)]) (Γr:=(fun p19=>⟨[H5],[(1, .cells [(53, .val Ae a)]),Co,Ce,Fx,DG,DF,DE]⟩)) 2100000 (fun p19=>⟨[O3,(2, .cp 2 0)],[(1, .cells [(53, .val Ae a)]),Co,Ce,DG,DF,DE]⟩) G7 rfl rfl rfl (BJ rfl) (.nil) sB rfl (Af<|Ai (AA 0 _ De rfl rfl) fun _=>Ah<|Ba (Bw (φs:=[.fnv (.func BP) [] [], .fnv (.func Ci) [] [], .fnv (.func Ch) [] []]) 3600040 (.cons B3<| .cons B3<| .cons B3<| .nil) rfl rfl sB (js:=[3600040,3600041,3600042]) rfl)<|Ai (AT (Ag rfl) (Ag rfl) rfl rfl rfl rfl) fun _=>Ac<|Ay () (.cons (D9 rfl rfl rfl rfl)<| .nil) sB) (fun p19=>Au sB rfl (.one rfl) sB sB) (.one fun p19=>Aa.inl (τ:=Unit) (φs:=[]) (n:=1) (L:=[(2, .cp 2 0),O3]) (Γr:=(fun p20=>⟨[O4],[(1, .cells [(53, .val Ae a)]),Co,Ce,Fx,nX,DG,DF,DE,BV,BU,BT]⟩)) 2100000 (fun p20=>⟨[nY,(2, .cp 2 0),O3],[(1, .cells [(53, .val Ae a)]),Co,Ce,DG,DF,DE,BV,BU,BT]⟩) BL rfl rfl rfl (BJ rfl) (.nil) sB rfl (
 Af<|Ai (AA 0 _ De rfl rfl) fun _=>Ah<|Ba (Bw (φs:=[.fnv (.func AS) [] [], .fnv (.func AW) [] [], .fnv (.func AU) [] []]) 13600040 (.cons B3<| .cons B3<| .cons B3<| .nil) rfl rfl sB (js:=[13600040,13600041,13600042]) rfl)<|Ai (AT (Ag rfl) (Ag rfl) rfl rfl rfl rfl) fun _=>Ac<|Ay () (.cons (D9 rfl rfl rfl rfl)<| .nil) sB) (fun p20=>Au sB rfl (.one rfl) sB sB) (.one fun p20=>Ai (EX (l:=[[3600040,3600041,3600042],[13600040,13600041,13600042]]) 20001021 (.cons (Ag rfl) rfl<| .cons (Ag rfl) rfl<| .nil) rfl rfl) fun _=>Ba (Bw (φs:=[.val Ak [100,101,108,105,118,101,114], .own 20001021]) 3400880 (.cons Df<| .cons (Ag rfl)<| .nil) rfl rfl sB (js:=[3400880,3400881]) rfl)<|Ai (AT (Ag rfl) (Ag rfl) rfl rfl rfl rfl) fun _=>Ad (Aq En)<|Ac<|BR (js:=[3400880,3400881]) 3560080 2 rfl rfl rfl rfl<|BQ 3560120 3 rfl rfl rfl<|Ay (.inr (.inr (.inl (())))) (.cons (Ei (js:=[3400880,3400881]) (j:=2) (j':=3560080) rfl rfl rfl rfl rfl)<| .cons (CU rfl)<| .nil) sB))) (Af<|Aj (Aw rfl (Ag rfl) AK) fun x21=>Ab rfl<|Ac<|Aa.cond (Ag rfl) (Af<|Aa.inl (τ:=Unit) (φs:=[]) (n:=1) (L:=[(2, .cp 2 0)]) (Γr:=(fun p22=>⟨[H5],[(1, .cells [(53, .val Ae a)]),Co,Ce,Fx,CD,CC,CB]⟩)) 2100000 (fun p22=>⟨[nW,(2, .cp 2 0)],[(1, .cells [(53, .val Ae a)]),Co,Ce,CD,CC,CB]⟩) BL rfl rfl rfl (BJ rfl) (.nil) sB rfl (Af<|Ai (AA 0 _ De rfl rfl) fun _=>Ah<|Ba (Bw (φs:=[.fnv (.func AS) [] [], .fnv (.func AW) [] [], .fnv (.func AU) [] []]) 3600040 (.cons B3<| .cons B3<| .cons B3<| .nil) rfl rfl sB (js:=[3600040,3600041,3600042]) rfl)<|Ai (AT (Ag rfl) (Ag rfl) rfl rfl rfl rfl) fun _=>
 Ac<|Ay () (.cons (D9 rfl rfl rfl rfl)<| .nil) sB) (fun p22=>Au sB rfl (.one rfl) sB sB) (.one fun p22=>Ai (EX (l:=[[3600040,3600041,3600042]]) 20001026 (.cons (Ag rfl) rfl<| .nil) rfl rfl) fun _=>Ba (Bw (φs:=[.val Ak [114,101,102,117,115,101], .own 20001026]) 3401080 (.cons Df<| .cons (Ag rfl)<| .nil) rfl rfl sB (js:=[3401080,3401081]) rfl)<|Ai (AT (Ag rfl) (Ag rfl) rfl rfl rfl rfl) fun _=>Ad (Aq En)<|Ac<|BR (js:=[3401080,3401081]) 3560080 2 rfl rfl rfl rfl<|BQ 3560120 3 rfl rfl rfl<|Ay (.inr (.inr (.inr (.inl (()))))) (.cons (Ei (js:=[3401080,3401081]) (j:=2) (j':=3560080) rfl rfl rfl rfl rfl)<| .cons (CU rfl)<| .nil) sB)) (Af<|Aj (Aw rfl (Ag rfl) AK) fun x23=>Ab rfl<|Ac<|Aa.cond (Ag rfl) (Af<|Aa.inl (τ:=Unit) (φs:=[]) (n:=1) (L:=[(2, .cp 2 0)]) (Γr:=(fun p24=>⟨[H5],[(1, .cells [(53, .val Ae a)]),Co,Ce,Fx,GB,GA,G9]⟩)) 2100000 (fun p24=>⟨[nV,(2, .cp 2 0)],[(1, .cells [(53, .val Ae a)]),Co,Ce,GB,GA,G9]⟩) Mr rfl rfl rfl (BJ rfl) (.nil) sB rfl (Af<|Ai (AA 0 _ De rfl rfl) fun _=>Ah<|Ba (Bw (φs:=[.fnv (.func Da) [] [], .fnv (.func Dv) [] [], .fnv (.func Du) [] []]) 3600040 (.cons B3<| .cons B3<| .cons B3<| .nil) rfl rfl sB (js:=[3600040,3600041,3600042]) rfl)<|Ai (AT (Ag rfl) (Ag rfl) rfl rfl rfl rfl) fun _=>Ac<|Ay () (.cons (D9 rfl rfl rfl rfl)<| .nil) sB) (fun p24=>Au sB rfl (.one rfl) sB sB) (.one fun p24=>Ai (EX (l:=[[3600040,3600041,3600042]]) 20001031 (.cons (Ag rfl) rfl<| .nil) rfl rfl) fun _=>Ba (Bw (φs:=[.val Ak [100,114,111,112], .own 20001031]) 3401280 (.cons Df<| .cons (Ag rfl)<| .nil) rfl rfl sB (js:=[3401280,3401281]) rfl)<|
 Ai (AT (Ag rfl) (Ag rfl) rfl rfl rfl rfl) fun _=>Ad (Aq En)<|Ac<|BR (js:=[3401280,3401281]) 3560080 2 rfl rfl rfl rfl<|BQ 3560120 3 rfl rfl rfl<|Ay (.inr (.inr (.inr (.inr (.inl (())))))) (.cons (Ei (js:=[3401280,3401281]) (j:=2) (j':=3560080) rfl rfl rfl rfl rfl)<| .cons (CU rfl)<| .nil) sB)) (Af<|Aj (Aw rfl (Ag rfl) AK) fun x25=>Ab rfl<|Ac<|Aa.cond (Ag rfl) (Af<|Aa.inl (τ:=Unit) (φs:=[]) (n:=1) (L:=[(2, .cp 2 0)]) (Γr:=(fun p26=>⟨[H5],[(1, .cells [(53, .val Ae a)]),Co,Ce,Fx,Bo,Bn,Bm]⟩)) 2100000 (fun p26=>⟨[O2,(2, .cp 2 0)],[(1, .cells [(53, .val Ae a)]),Co,Ce,Bo,Bn,Bm]⟩) HM rfl rfl rfl (BJ rfl) (.nil) sB rfl (Af<|Ai (AA 0 _ De rfl rfl) fun _=>Ah<|Ba (Bw (φs:=[.fnv (.func Ct) [] [], .fnv (.func C4) [] [], .fnv (.func C3) [] []]) 3600040 (.cons B3<| .cons B3<| .cons B3<| .nil) rfl rfl sB (js:=[3600040,3600041,3600042]) rfl)<|Ai (AT (Ag rfl) (Ag rfl) rfl rfl rfl rfl) fun _=>Ac<|Ay () (.cons (D9 rfl rfl rfl rfl)<| .nil) sB) (fun p26=>Au sB rfl (.one rfl) sB sB) (.one fun p26=>Aa.inl (τ:=Unit) (φs:=[]) (n:=1) (L:=[(2, .cp 2 0),O2]) (Γr:=(fun p27=>⟨[O4],[(1, .cells [(53, .val Ae a)]),Co,Ce,Fx,nT,Bo,Bn,Bm,BV,BU,BT]⟩)) 2100000 (fun p27=>⟨[nU,(2, .cp 2 0),O2],[(1, .cells [(53, .val Ae a)]),Co,Ce,Bo,Bn,Bm,BV,BU,BT]⟩) BL rfl rfl rfl (BJ rfl) (.nil) sB rfl (Af<|Ai (AA 0 _ De rfl rfl) fun _=>Ah<|Ba (Bw (φs:=[.fnv (.func AS) [] [], .fnv (.func AW) [] [], .fnv (.func AU) [] []]) 13600040 (.cons B3<| .cons B3<| .cons B3<| .nil) rfl rfl sB (js:=[13600040,13600041,13600042]) rfl)<|Ai (AT (Ag rfl) (Ag rfl) rfl rfl rfl rfl) fun _=>
 Ac<|Ay () (.cons (D9 rfl rfl rfl rfl)<| .nil) sB) (fun p27=>Au sB rfl (.one rfl) sB sB) (.one fun p27=>Ai (EX (l:=[[3600040,3600041,3600042],[13600040,13600041,13600042]]) 20001037 (.cons (Ag rfl) rfl<| .cons (Ag rfl) rfl<| .nil) rfl rfl) fun _=>Ba (Bw (φs:=[.val Ak [112,97,115,115], .own 20001037]) 3401520 (.cons Df<| .cons (Ag rfl)<| .nil) rfl rfl sB (js:=[3401520,3401521]) rfl)<|Ai (AT (Ag rfl) (Ag rfl) rfl rfl rfl rfl) fun _=>Ad (Aq En)<|Ac<|BR (js:=[3401520,3401521]) 3560080 2 rfl rfl rfl rfl<|BQ 3560120 3 rfl rfl rfl<|Ay (.inr (.inr (.inr (.inr (.inr (.inl (()))))))) (.cons (Ei (js:=[3401520,3401521]) (j:=2) (j':=3560080) rfl rfl rfl rfl rfl)<| .cons (CU rfl)<| .nil) sB))) (Aa.skip<|AB<|Ah<|Ba (cC (zero:=[.s [], .nils]) (φs:=[.val Ak Ak.z, .con (.nils)]) 3401560 (fun _ _ _ _=>⟨(.inr ⟨rfl,Ak.hz _ _⟩),⟨rfl,rfl,rfl⟩,trivial⟩) rfl rfl sB (js:=[3401560,3401561]) rfl)<|Ai (AT (Ag rfl) (Ag rfl) rfl rfl rfl rfl) fun _=>Ad (Aq En)<|Ac<|BR (js:=[3401560,3401561]) 3560080 2 rfl rfl rfl rfl<|BQ 3560120 3 rfl rfl rfl<|Ay (.inr (.inr (.inr (.inr (.inr (.inr (()))))))) (.cons (Ei (js:=[3401560,3401561]) (j:=2) (j':=3560080) rfl rfl rfl rfl rfl)<| .cons (CU rfl)<| .nil) sB))))))) (DJ (fun p5=>Au sB rfl (.kvs rfl (by intro i p h;match i,h with|0,h=>(cases h;rfl)|1,h=>(cases h;rfl)|(_+2),h=>simp at h)) sB sB) (DJ (fun p6=>Au sB rfl (.kvs rfl (by intro i p h;match i,h with|0,h=>(cases h;rfl)|1,h=>(cases h;rfl)|(_+2),h=>simp at h)) sB sB) (DJ (fun p7=>Au sB rfl (.kvs rfl (by intro i p h;match i,h with|0,h=>(cases h;rfl)|1,h=>(cases h;rfl)|(_+2),h=>simp at h)) sB sB) (DJ (fun p8=>Au sB rfl (.kvs rfl (by intro i p h;match i,h with|0,h=>(cases h;rfl)|1,h=>(cases h;rfl)|(_+2),h=>simp at h)) sB sB) (DJ (fun p9=>Au sB rfl (.kvs rfl (by intro i p h;match i,h with|0,h=>(cases h;rfl)|1,h=>(cases h;rfl)|(_+2),h=>simp at h)) sB sB) (DJ (fun p10=>Au sB rfl (.kvs rfl (by intro i p h;match i,h with|0,h=>(cases h;rfl)|1,h=>(cases h;rfl)|(_+2),h=>simp at h)) sB sB) (fun p11=>Au sB rfl (.kvs rfl (by intro i p h;match i,h with|0,h=>(cases h;rfl)|1,h=>(cases h;rfl)|(_+2),h=>simp at h)) sB sB))))))) (.alt (.one fun p5=>
 Ab rfl<|Ad (BA (Ag rfl) rfl)<|Ad (BA (Ag rfl) rfl)<|Ai (AA 4 _ Iq rfl rfl) fun _=>Ai (AT (Ag rfl) (Bh rfl rfl) rfl rfl rfl rfl) fun _=>Ad (Aq (Bh rfl rfl))<|Ah<|Ad (A6 (Ag rfl))<|Ad (Bp (Ag rfl) rfl rfl rfl)<|Ai (Ux (t:=Ak) (n:=1) 1006 rfl rfl (.cons rfl (Bh rfl rfl)<| .nil _) rfl) fun x28=>Ab rfl<|Ah<|Af<|Ad (A6 (Ag rfl))<|Ad (Bp (Ag rfl) rfl rfl rfl)<|Ad (ES (n:=1) (Bh rfl rfl) rfl rfl)<|Ad (Aq AK)<|Ac<|A4<|AP (Γ':=⟨[(1, .cp 1 0),(6, .own 1006),(22, .kv 3400361),Tw,Rj],[(1, .cells [(53, .val Ae a)]),(1006, .row Ak (.mk x28)),JI,CD,CC,CB,JH]⟩) sB rfl<|Af<|Ad (Br (t:=T.b) (y:=true) (Aw rfl (Ag rfl) (Ag rfl)) rfl)<|Ah<|B7 (Ag rfl)<|Aa.skip<|Ah<|A4<|Af<|Ad (DK (i:=0) (Bh rfl rfl) rfl rfl (Ag rfl) rfl (by decide))<|Ad (Fw (Ag rfl) rfl rfl rfl)<|Ai (AA 8 _ De rfl rfl) fun _=>Ai (AT (Ag rfl) (Ag rfl) rfl rfl rfl rfl) fun _=>Ac<|Ab rfl<|Ad (A6 (Ag rfl))<|Ad (Bp (Ag rfl) rfl rfl rfl)<|An (AE (t:=Ae) (u:=Ae) (Ag rfl) rfl rfl (At _) rfl rfl) fun x29=>Aa.op (Iu GY (CG (Bh rfl rfl) rfl) (.one (IX (Ag rfl)))) fun x30=>Aj (Mq (t:=Ak) (n:=1) rfl rfl (.cons rfl (Ag rfl)<| .nil _)) fun x31=>CS (M9 rfl (Ag rfl) rfl (RH (Ag rfl))) fun x32=>Ab rfl<|AB<|Ac<|Ad (Br (t:=T.int .i64) (y:=(1:Int)) (Bf (I:=(IT.int .i64)) (Ag rfl) AK) rfl)<|Ab rfl<|Ac<|AP (Γ':=⟨[(1, .cp 1 0),(6, .own 1006),(22, .kv 3400361),Tw,Tv],[(1, .cells [(53, .val Ae a)]),(1006, .row Ak x32),JI,CD,CC,CB,JH]⟩) sB rfl<|Af<|Ad (Br (t:=T.b) (y:=false) (Aw rfl (Ag rfl) (Ag rfl)) rfl)<|Ah<|C9 (Ag rfl)<|AH<|AH<|Bd<|Ah<|Ab rfl<|Aa.frzRow 1006 rfl rfl<|Aa.op (AD Dy (.cons (Ag rfl)<| .one Df)) fun x33=>
 Ab rfl<|Ad (Aq AK)<|Ac<|Aa.ret (.cons (A8 rfl)<| .one (A8 rfl))) (.alt (.one fun p6=>Ab rfl<|Ad (BA (Ag rfl) rfl)<|Ad (BA (Ag rfl) rfl)<|Ai (AA 4 _ Iq rfl rfl) fun _=>Ai (AT (Ag rfl) (Bh rfl rfl) rfl rfl rfl rfl) fun _=>Ad (Aq (Bh rfl rfl))<|Ah<|Ad (A6 (Ag rfl))<|Ad (Bp (Ag rfl) rfl rfl rfl)<|Ai (Ux (t:=Ak) (n:=1) 1006 rfl rfl (.cons rfl (Bh rfl rfl)<| .nil _) rfl) fun x34=>Ab rfl<|Ah<|Af<|Ad (A6 (Ag rfl))<|Ad (Bp (Ag rfl) rfl rfl rfl)<|Ad (ES (n:=3) (Bh rfl rfl) rfl rfl)<|Ad (Aq AK)<|Ac<|A4<|AP (Γ':=⟨[(1, .cp 1 0),(6, .own 1006),(22, .kv 3400641),bH,Rj],[(1, .cells [(53, .val Ae a)]),(1006, .row Ak (.mk x34)),Fc,Bo,Bn,Bm,CY,CX,CW,Fb,DO,DN,DM]⟩) sB rfl<|Af<|Ad (Br (t:=T.b) (y:=true) (Aw rfl (Ag rfl) (Ag rfl)) rfl)<|Ah<|B7 (Ag rfl)<|Aa.skip<|Ah<|A4<|Af<|Ad (DK (i:=0) (Bh rfl rfl) rfl rfl (Ag rfl) rfl (by decide))<|Ad (Fw (Ag rfl) rfl rfl rfl)<|Ai (AA 8 _ De rfl rfl) fun _=>Ai (AT (Ag rfl) (Ag rfl) rfl rfl rfl rfl) fun _=>Ac<|Ab rfl<|Ad (A6 (Ag rfl))<|Ad (Bp (Ag rfl) rfl rfl rfl)<|An (AE (t:=Ae) (u:=Ae) (Ag rfl) rfl rfl (At _) rfl rfl) fun x35=>Aa.op (Iu Qs (CG (Bh rfl rfl) rfl) (.one (IX (Ag rfl)))) fun x36=>Aj (Mq (t:=Ak) (n:=1) rfl rfl (.cons rfl (Ag rfl)<| .nil _)) fun x37=>CS (M9 rfl (Ag rfl) rfl (RH (Ag rfl))) fun x38=>Ab rfl<|AB<|Ac<|Ad (Br (t:=T.int .i64) (y:=(1:Int)) (Bf (I:=(IT.int .i64)) (Ag rfl) AK) rfl)<|Ab rfl<|Ac<|AP (Γ':=⟨[(1, .cp 1 0),(6, .own 1006),(22, .kv 3400641),bH,Tv],[(1, .cells [(53, .val Ae a)]),(1006, .row Ak x38),Fc,Bo,Bn,Bm,CY,CX,CW,Fb,DO,DN,DM]⟩) sB rfl<|
 Af<|Ad (Br (t:=T.b) (y:=true) (Aw rfl (Ag rfl) (Ag rfl)) rfl)<|Ah<|B7 (Ag rfl)<|Aa.skip<|Ah<|A4<|Af<|Ad (DK (i:=1) (Bh rfl rfl) rfl rfl (Ag rfl) rfl (by decide))<|Ad (Fw (Ag rfl) rfl rfl rfl)<|Ai (AA 8 _ De rfl rfl) fun _=>Ai (AT (Ag rfl) (Ag rfl) rfl rfl rfl rfl) fun _=>Ac<|Ab rfl<|Ad (A6 (Ag rfl))<|Ad (Bp (Ag rfl) rfl rfl rfl)<|An (AE (t:=Ae) (u:=Ae) (Ag rfl) rfl rfl (At _) rfl rfl) fun x39=>Aa.op (Iu OJ (CG (Bh rfl rfl) rfl) (.one (IX (Ag rfl)))) fun x40=>Aj (Mq (t:=Ak) (n:=1) rfl rfl (.cons rfl (Ag rfl)<| .nil _)) fun x41=>CS (M9 rfl (Ag rfl) rfl (RH (Ag rfl))) fun x42=>Ab rfl<|AB<|Ac<|Ad (Br (t:=T.int .i64) (y:=(2:Int)) (Bf (I:=(IT.int .i64)) (Ag rfl) AK) rfl)<|Ab rfl<|Ac<|AP (Γ':=⟨[(1, .cp 1 0),(6, .own 1006),(22, .kv 3400641),bH,lO],[(1, .cells [(53, .val Ae a)]),(1006, .row Ak x42),Fc,Bo,Bn,Bm,CY,CX,CW,Fb,DO,DN,DM]⟩) sB rfl<|Af<|Ad (Br (t:=T.b) (y:=true) (Aw rfl (Ag rfl) (Ag rfl)) rfl)<|Ah<|B7 (Ag rfl)<|Aa.skip<|Ah<|A4<|Af<|Ad (DK (i:=2) (Bh rfl rfl) rfl rfl (Ag rfl) rfl (by decide))<|Ad (Fw (Ag rfl) rfl rfl rfl)<|Ai (AA 8 _ De rfl rfl) fun _=>Ai (AT (Ag rfl) (Ag rfl) rfl rfl rfl rfl) fun _=>Ac<|Ab rfl<|Ad (A6 (Ag rfl))<|Ad (Bp (Ag rfl) rfl rfl rfl)<|An (AE (t:=Ae) (u:=Ae) (Ag rfl) rfl rfl (At _) rfl rfl) fun x43=>Aa.op (Iu GY (CG (Bh rfl rfl) rfl) (.one (IX (Ag rfl)))) fun x44=>Aj (Mq (t:=Ak) (n:=1) rfl rfl (.cons rfl (Ag rfl)<| .nil _)) fun x45=>CS (M9 rfl (Ag rfl) rfl (RH (Ag rfl))) fun x46=>Ab rfl<|AB<|Ac<|Ad (Br (t:=T.int .i64) (y:=(3:Int)) (Bf (I:=(IT.int .i64)) (Ag rfl) AK) rfl)<|
 Ab rfl<|Ac<|AP (Γ':=⟨[(1, .cp 1 0),(6, .own 1006),(22, .kv 3400641),bH,(24, .val (T.int .i64) (3:Int))],[(1, .cells [(53, .val Ae a)]),(1006, .row Ak x46),Fc,Bo,Bn,Bm,CY,CX,CW,Fb,DO,DN,DM]⟩) sB rfl<|Af<|Ad (Br (t:=T.b) (y:=false) (Aw rfl (Ag rfl) (Ag rfl)) rfl)<|Ah<|C9 (Ag rfl)<|AH<|AH<|Bd<|Ah<|Ab rfl<|Aa.frzRow 1006 rfl rfl<|Aa.op (AD Dy (.cons (Ag rfl)<| .one Df)) fun x47=>Ab rfl<|Ad (Aq AK)<|Ac<|Aa.ret (.cons (A8 rfl)<| .one (A8 rfl))) (.alt (.one fun p7=>Ab rfl<|Ad (BA (Ag rfl) rfl)<|Ad (BA (Ag rfl) rfl)<|Ai (AA 4 _ Iq rfl rfl) fun _=>Ai (AT (Ag rfl) (Bh rfl rfl) rfl rfl rfl rfl) fun _=>Ad (Aq (Bh rfl rfl))<|Ah<|Ad (A6 (Ag rfl))<|Ad (Bp (Ag rfl) rfl rfl rfl)<|Ai (Ux (t:=Ak) (n:=1) 1006 rfl rfl (.cons rfl (Bh rfl rfl)<| .nil _) rfl) fun x48=>Ab rfl<|Ah<|Af<|Ad (A6 (Ag rfl))<|Ad (Bp (Ag rfl) rfl rfl rfl)<|Ad (ES (n:=2) (Bh rfl rfl) rfl rfl)<|Ad (Aq AK)<|Ac<|A4<|AP (Γ':=⟨[(1, .cp 1 0),(6, .own 1006),(22, .kv 3400881),Tu,Rj],[(1, .cells [(53, .val Ae a)]),(1006, .row Ak (.mk x48)),Hg,DG,DF,DE,BV,BU,BT,Hf]⟩) sB rfl<|Af<|Ad (Br (t:=T.b) (y:=true) (Aw rfl (Ag rfl) (Ag rfl)) rfl)<|Ah<|B7 (Ag rfl)<|Aa.skip<|Ah<|A4<|Af<|Ad (DK (i:=0) (Bh rfl rfl) rfl rfl (Ag rfl) rfl (by decide))<|Ad (Fw (Ag rfl) rfl rfl rfl)<|Ai (AA 8 _ De rfl rfl) fun _=>Ai (AT (Ag rfl) (Ag rfl) rfl rfl rfl rfl) fun _=>Ac<|Ab rfl<|Ad (A6 (Ag rfl))<|Ad (Bp (Ag rfl) rfl rfl rfl)<|An (AE (t:=Ae) (u:=Ae) (Ag rfl) rfl rfl (At _) rfl rfl) fun x49=>Aa.op (Iu OJ (CG (Bh rfl rfl) rfl) (.one (IX (Ag rfl)))) fun x50=>Aj (Mq (t:=Ak) (n:=1) rfl rfl (.cons rfl (Ag rfl)<| .nil _)) fun x51=>
 CS (M9 rfl (Ag rfl) rfl (RH (Ag rfl))) fun x52=>Ab rfl<|AB<|Ac<|Ad (Br (t:=T.int .i64) (y:=(1:Int)) (Bf (I:=(IT.int .i64)) (Ag rfl) AK) rfl)<|Ab rfl<|Ac<|AP (Γ':=⟨[(1, .cp 1 0),(6, .own 1006),(22, .kv 3400881),Tu,Tv],[(1, .cells [(53, .val Ae a)]),(1006, .row Ak x52),Hg,DG,DF,DE,BV,BU,BT,Hf]⟩) sB rfl<|Af<|Ad (Br (t:=T.b) (y:=true) (Aw rfl (Ag rfl) (Ag rfl)) rfl)<|Ah<|B7 (Ag rfl)<|Aa.skip<|Ah<|A4<|Af<|Ad (DK (i:=1) (Bh rfl rfl) rfl rfl (Ag rfl) rfl (by decide))<|Ad (Fw (Ag rfl) rfl rfl rfl)<|Ai (AA 8 _ De rfl rfl) fun _=>Ai (AT (Ag rfl) (Ag rfl) rfl rfl rfl rfl) fun _=>Ac<|Ab rfl<|Ad (A6 (Ag rfl))<|Ad (Bp (Ag rfl) rfl rfl rfl)<|An (AE (t:=Ae) (u:=Ae) (Ag rfl) rfl rfl (At _) rfl rfl) fun x53=>Aa.op (Iu GY (CG (Bh rfl rfl) rfl) (.one (IX (Ag rfl)))) fun x54=>Aj (Mq (t:=Ak) (n:=1) rfl rfl (.cons rfl (Ag rfl)<| .nil _)) fun x55=>CS (M9 rfl (Ag rfl) rfl (RH (Ag rfl))) fun x56=>Ab rfl<|AB<|Ac<|Ad (Br (t:=T.int .i64) (y:=(2:Int)) (Bf (I:=(IT.int .i64)) (Ag rfl) AK) rfl)<|Ab rfl<|Ac<|AP (Γ':=⟨[(1, .cp 1 0),(6, .own 1006),(22, .kv 3400881),Tu,lO],[(1, .cells [(53, .val Ae a)]),(1006, .row Ak x56),Hg,DG,DF,DE,BV,BU,BT,Hf]⟩) sB rfl<|Af<|Ad (Br (t:=T.b) (y:=false) (Aw rfl (Ag rfl) (Ag rfl)) rfl)<|Ah<|C9 (Ag rfl)<|AH<|AH<|Bd<|Ah<|Ab rfl<|Aa.frzRow 1006 rfl rfl<|Aa.op (AD Dy (.cons (Ag rfl)<| .one Df)) fun x57=>Ab rfl<|Ad (Aq AK)<|Ac<|Aa.ret (.cons (A8 rfl)<| .one (A8 rfl))) (.alt (.one fun p8=>Ab rfl<|Ad (BA (Ag rfl) rfl)<|Ad (BA (Ag rfl) rfl)<|Ai (AA 4 _ Iq rfl rfl) fun _=>Ai (AT (Ag rfl) (Bh rfl rfl) rfl rfl rfl rfl) fun _=>
 Ad (Aq (Bh rfl rfl))<|Ah<|Ad (A6 (Ag rfl))<|Ad (Bp (Ag rfl) rfl rfl rfl)<|Ai (Ux (t:=Ak) (n:=1) 1006 rfl rfl (.cons rfl (Bh rfl rfl)<| .nil _) rfl) fun x58=>Ab rfl<|Ah<|Af<|Ad (A6 (Ag rfl))<|Ad (Bp (Ag rfl) rfl rfl rfl)<|Ad (ES (n:=1) (Bh rfl rfl) rfl rfl)<|Ad (Aq AK)<|Ac<|A4<|AP (Γ':=⟨[(1, .cp 1 0),(6, .own 1006),(22, .kv 3401081),Tw,Rj],[(1, .cells [(53, .val Ae a)]),(1006, .row Ak (.mk x58)),JG,CD,CC,CB,JF]⟩) sB rfl<|Af<|Ad (Br (t:=T.b) (y:=true) (Aw rfl (Ag rfl) (Ag rfl)) rfl)<|Ah<|B7 (Ag rfl)<|Aa.skip<|Ah<|A4<|Af<|Ad (DK (i:=0) (Bh rfl rfl) rfl rfl (Ag rfl) rfl (by decide))<|Ad (Fw (Ag rfl) rfl rfl rfl)<|Ai (AA 8 _ De rfl rfl) fun _=>Ai (AT (Ag rfl) (Ag rfl) rfl rfl rfl rfl) fun _=>Ac<|Ab rfl<|Ad (A6 (Ag rfl))<|Ad (Bp (Ag rfl) rfl rfl rfl)<|An (AE (t:=Ae) (u:=Ae) (Ag rfl) rfl rfl (At _) rfl rfl) fun x59=>Aa.op (Iu GY (CG (Bh rfl rfl) rfl) (.one (IX (Ag rfl)))) fun x60=>Aj (Mq (t:=Ak) (n:=1) rfl rfl (.cons rfl (Ag rfl)<| .nil _)) fun x61=>CS (M9 rfl (Ag rfl) rfl (RH (Ag rfl))) fun x62=>Ab rfl<|AB<|Ac<|Ad (Br (t:=T.int .i64) (y:=(1:Int)) (Bf (I:=(IT.int .i64)) (Ag rfl) AK) rfl)<|Ab rfl<|Ac<|AP (Γ':=⟨[(1, .cp 1 0),(6, .own 1006),(22, .kv 3401081),Tw,Tv],[(1, .cells [(53, .val Ae a)]),(1006, .row Ak x62),JG,CD,CC,CB,JF]⟩) sB rfl<|Af<|Ad (Br (t:=T.b) (y:=false) (Aw rfl (Ag rfl) (Ag rfl)) rfl)<|Ah<|C9 (Ag rfl)<|AH<|AH<|Bd<|Ah<|Ab rfl<|Aa.frzRow 1006 rfl rfl<|Aa.op (AD Dy (.cons (Ag rfl)<| .one Df)) fun x63=>Ab rfl<|Ad (Aq AK)<|Ac<|Aa.ret (.cons (A8 rfl)<| .one (A8 rfl))) (.alt (.one fun p9=>
 Ab rfl<|Ad (BA (Ag rfl) rfl)<|Ad (BA (Ag rfl) rfl)<|Ai (AA 4 _ Iq rfl rfl) fun _=>Ai (AT (Ag rfl) (Bh rfl rfl) rfl rfl rfl rfl) fun _=>Ad (Aq (Bh rfl rfl))<|Ah<|Ad (A6 (Ag rfl))<|Ad (Bp (Ag rfl) rfl rfl rfl)<|Ai (Ux (t:=Ak) (n:=1) 1006 rfl rfl (.cons rfl (Bh rfl rfl)<| .nil _) rfl) fun x64=>Ab rfl<|Ah<|Af<|Ad (A6 (Ag rfl))<|Ad (Bp (Ag rfl) rfl rfl rfl)<|Ad (ES (n:=1) (Bh rfl rfl) rfl rfl)<|Ad (Aq AK)<|Ac<|A4<|AP (Γ':=⟨[(1, .cp 1 0),(6, .own 1006),(22, .kv 3401281),Tw,Rj],[(1, .cells [(53, .val Ae a)]),(1006, .row Ak (.mk x64)),JE,GB,GA,G9,JD]⟩) sB rfl<|Af<|Ad (Br (t:=T.b) (y:=true) (Aw rfl (Ag rfl) (Ag rfl)) rfl)<|Ah<|B7 (Ag rfl)<|Aa.skip<|Ah<|A4<|Af<|Ad (DK (i:=0) (Bh rfl rfl) rfl rfl (Ag rfl) rfl (by decide))<|Ad (Fw (Ag rfl) rfl rfl rfl)<|Ai (AA 8 _ De rfl rfl) fun _=>Ai (AT (Ag rfl) (Ag rfl) rfl rfl rfl rfl) fun _=>Ac<|Ab rfl<|Ad (A6 (Ag rfl))<|Ad (Bp (Ag rfl) rfl rfl rfl)<|An (AE (t:=Ae) (u:=Ae) (Ag rfl) rfl rfl (At _) rfl rfl) fun x65=>Aa.op (Iu Vy (CG (Bh rfl rfl) rfl) (.one (IX (Ag rfl)))) fun x66=>Aj (Mq (t:=Ak) (n:=1) rfl rfl (.cons rfl (Ag rfl)<| .nil _)) fun x67=>CS (M9 rfl (Ag rfl) rfl (RH (Ag rfl))) fun x68=>Ab rfl<|AB<|Ac<|Ad (Br (t:=T.int .i64) (y:=(1:Int)) (Bf (I:=(IT.int .i64)) (Ag rfl) AK) rfl)<|Ab rfl<|Ac<|AP (Γ':=⟨[(1, .cp 1 0),(6, .own 1006),(22, .kv 3401281),Tw,Tv],[(1, .cells [(53, .val Ae a)]),(1006, .row Ak x68),JE,GB,GA,G9,JD]⟩) sB rfl<|Af<|Ad (Br (t:=T.b) (y:=false) (Aw rfl (Ag rfl) (Ag rfl)) rfl)<|Ah<|C9 (Ag rfl)<|AH<|AH<|Bd<|Ah<|Ab rfl<|Aa.frzRow 1006 rfl rfl<|Aa.op (AD Dy (.cons (Ag rfl)<| .one Df)) fun x69=>
 Ab rfl<|Ad (Aq AK)<|Ac<|Aa.ret (.cons (A8 rfl)<| .one (A8 rfl))) (.alt (.one fun p10=>Ab rfl<|Ad (BA (Ag rfl) rfl)<|Ad (BA (Ag rfl) rfl)<|Ai (AA 4 _ Iq rfl rfl) fun _=>Ai (AT (Ag rfl) (Bh rfl rfl) rfl rfl rfl rfl) fun _=>Ad (Aq (Bh rfl rfl))<|Ah<|Ad (A6 (Ag rfl))<|Ad (Bp (Ag rfl) rfl rfl rfl)<|Ai (Ux (t:=Ak) (n:=1) 1006 rfl rfl (.cons rfl (Bh rfl rfl)<| .nil _) rfl) fun x70=>Ab rfl<|Ah<|Af<|Ad (A6 (Ag rfl))<|Ad (Bp (Ag rfl) rfl rfl rfl)<|Ad (ES (n:=2) (Bh rfl rfl) rfl rfl)<|Ad (Aq AK)<|Ac<|A4<|AP (Γ':=⟨[(1, .cp 1 0),(6, .own 1006),(22, .kv 3401521),Tu,Rj],[(1, .cells [(53, .val Ae a)]),(1006, .row Ak (.mk x70)),He,Bo,Bn,Bm,BV,BU,BT,Hd]⟩) sB rfl<|Af<|Ad (Br (t:=T.b) (y:=true) (Aw rfl (Ag rfl) (Ag rfl)) rfl)<|Ah<|B7 (Ag rfl)<|Aa.skip<|Ah<|A4<|Af<|Ad (DK (i:=0) (Bh rfl rfl) rfl rfl (Ag rfl) rfl (by decide))<|Ad (Fw (Ag rfl) rfl rfl rfl)<|Ai (AA 8 _ De rfl rfl) fun _=>Ai (AT (Ag rfl) (Ag rfl) rfl rfl rfl rfl) fun _=>Ac<|Ab rfl<|Ad (A6 (Ag rfl))<|Ad (Bp (Ag rfl) rfl rfl rfl)<|An (AE (t:=Ae) (u:=Ae) (Ag rfl) rfl rfl (At _) rfl rfl) fun x71=>Aa.op (Iu Qs (CG (Bh rfl rfl) rfl) (.one (IX (Ag rfl)))) fun x72=>Aj (Mq (t:=Ak) (n:=1) rfl rfl (.cons rfl (Ag rfl)<| .nil _)) fun x73=>CS (M9 rfl (Ag rfl) rfl (RH (Ag rfl))) fun x74=>Ab rfl<|AB<|Ac<|Ad (Br (t:=T.int .i64) (y:=(1:Int)) (Bf (I:=(IT.int .i64)) (Ag rfl) AK) rfl)<|Ab rfl<|Ac<|AP (Γ':=⟨[(1, .cp 1 0),(6, .own 1006),(22, .kv 3401521),Tu,Tv],[(1, .cells [(53, .val Ae a)]),(1006, .row Ak x74),He,Bo,Bn,Bm,BV,BU,BT,Hd]⟩) sB rfl<|Af<|Ad (Br (t:=T.b) (y:=true) (Aw rfl (Ag rfl) (Ag rfl)) rfl)<|
 Ah<|B7 (Ag rfl)<|Aa.skip<|Ah<|A4<|Af<|Ad (DK (i:=1) (Bh rfl rfl) rfl rfl (Ag rfl) rfl (by decide))<|Ad (Fw (Ag rfl) rfl rfl rfl)<|Ai (AA 8 _ De rfl rfl) fun _=>Ai (AT (Ag rfl) (Ag rfl) rfl rfl rfl rfl) fun _=>Ac<|Ab rfl<|Ad (A6 (Ag rfl))<|Ad (Bp (Ag rfl) rfl rfl rfl)<|An (AE (t:=Ae) (u:=Ae) (Ag rfl) rfl rfl (At _) rfl rfl) fun x75=>Aa.op (Iu GY (CG (Bh rfl rfl) rfl) (.one (IX (Ag rfl)))) fun x76=>Aj (Mq (t:=Ak) (n:=1) rfl rfl (.cons rfl (Ag rfl)<| .nil _)) fun x77=>CS (M9 rfl (Ag rfl) rfl (RH (Ag rfl))) fun x78=>Ab rfl<|AB<|Ac<|Ad (Br (t:=T.int .i64) (y:=(2:Int)) (Bf (I:=(IT.int .i64)) (Ag rfl) AK) rfl)<|Ab rfl<|Ac<|AP (Γ':=⟨[(1, .cp 1 0),(6, .own 1006),(22, .kv 3401521),Tu,lO],[(1, .cells [(53, .val Ae a)]),(1006, .row Ak x78),He,Bo,Bn,Bm,BV,BU,BT,Hd]⟩) sB rfl<|Af<|Ad (Br (t:=T.b) (y:=false) (Aw rfl (Ag rfl) (Ag rfl)) rfl)<|Ah<|C9 (Ag rfl)<|AH<|AH<|Bd<|Ah<|Ab rfl<|Aa.frzRow 1006 rfl rfl<|Aa.op (AD Dy (.cons (Ag rfl)<| .one Df)) fun x79=>Ab rfl<|Ad (Aq AK)<|Ac<|Aa.ret (.cons (A8 rfl)<| .one (A8 rfl))) (.one fun p11=>Ab rfl<|Ad (BA (Ag rfl) rfl)<|Ad (BA (Ag rfl) rfl)<|Ai (AA 4 _ Iq rfl rfl) fun _=>Ai (AT (Ag rfl) (Bh rfl rfl) rfl rfl rfl rfl) fun _=>Ad (Aq (Bh rfl rfl))<|Ah<|Ad (A6 (Ag rfl))<|Ad (Bp (Ag rfl) rfl rfl rfl)<|Ai (Ux (t:=Ak) (n:=1) 1006 rfl rfl (.cons rfl (Bh rfl rfl)<| .nil _) rfl) fun x80=>Ab rfl<|Ah<|Af<|Ad (A6 (Ag rfl))<|Ad (Bp (Ag rfl) rfl rfl rfl)<|Ad (aP (Bh rfl rfl))<|Ad (Aq AK)<|Ac<|A4<|AP (Γ':=⟨[(1, .cp 1 0),(6, .own 1006),(22, .kv 3401561),(23, .val (T.int .i64) (0:Int)),Rj],[(1, .cells [(53, .val Ae a)]),(1006, .row Ak (.mk x80)),Pt]⟩) sB rfl<|
 Af<|Ad (Br (t:=T.b) (y:=false) (Aw rfl (Ag rfl) (Ag rfl)) rfl)<|Ah<|C9 (Ag rfl)<|AH<|AH<|Bd<|Ah<|Ab rfl<|Aa.frzRow 1006 rfl rfl<|Aa.op (AD Dy (.cons (Ag rfl)<| .one Df)) fun x81=>Ab rfl<|Ad (Aq AK)<|Ac<|Aa.ret (.cons (A8 rfl)<| .one (A8 rfl))))))))))
theorem Qt:Spec tb FW [Ae] [Ak,(T.int .i64)] (fun a=>Ep a):=
 Spec.of aW rfl rfl rfl V8
noncomputable def L2(_:Unit):Option Bool:=let x1:=(⟨5, .nil,Al.z,(T.arr 32 T.u8).z,7⟩:Ao);(Ep x1).bind fun x2=>(Cy (decide (x2.2=0)) (some (decide (x2.1=[100,114,111,112,32,55])))).bind fun x7=>some x7
noncomputable def XD(a:CF []):Cz tb M5 [] [T.b] a:=Af<|Ad (Aq En)<|Ah<|Aj (CZ rfl rfl (.cons AN rfl AK<| .cons BN rfl AK<| .nil _)) fun x1=>Aa.op (Cd Qt (.one (Ag rfl))) fun x2=>Ab rfl<|An (Bs (Ag rfl) rfl) fun x3=>An (Bs (Ag rfl) rfl) fun x4=>Ab rfl<|Ab rfl<|Ah<|Ab rfl<|Aj (Aw rfl (Ag rfl) AK) fun x5=>Ab rfl<|Aa.and 2 rfl rfl rfl (AX (Aq (Ag rfl))<|B9 (HG (Ag rfl) Df) fun x6=>Bt.nil (Ag rfl)) fun x7=>Ab rfl<|Ac<|Aa.ret (.one (A8 rfl))
theorem Ny:Spec tb FI [] [T.b] (fun a=>L2 ()):=
 Spec.of gI rfl rfl rfl XD
noncomputable def RD(a0:(GS UInt8))(a1:(GS UInt8)):Option Bool:=let x3:= !decide ((a0.l.length:Int)=(a1.l.length:Int));if x3=true then some false else (iter (fun(s4:Int)=>if(decide (s4<(a0.l.length:Int)))=true then (Hb a0.l s4).bind fun x8=>(Hb a1.l s4).bind fun x10=>if(!decide ((x8.toNat:Int)=(x10.toNat:Int)))=true then (some false).map fun r=> .inr (.inr r) else some (.inl (IntKind.i64.wrap (s4+1))) else some (.inr (.inl ()))) 0).bind (Sum.elim (fun(p5:Unit)=>some true) some)
noncomputable def ZE(a:CF [(T.sl T.u8),(T.sl T.u8)]):Cz tb Og [(T.sl T.u8),(T.sl T.u8)] [T.b] a:=Af<|Ad (Aq En)<|Ah<|Af<|Ab rfl<|Aj (Gb (Ag rfl)) fun x1=>Ab rfl<|Aj (Gb (Ag rfl)) fun x2=>Aj (Aw rfl (Ag rfl) (Ag rfl)) fun x3=>Ac<|Aa.cond (Ag rfl) (Af<|Ad (Aq En)<|Ac<|Aa.ret (.one (A8 rfl))) (Aa.skip<|Ah<|Af<|Ad (Aq AK)<|Ac<|A4<|Aa.loop (id:=0) (σ:=Int) (τ:=Unit) (fun s4=>⟨[(0, .val (T.sl T.u8) a.1),(1, .val (T.sl T.u8) a.2),(5, .val (T.int .i64) s4)],[]⟩) (fun p5=>⟨[],[]⟩) 0 sB (fun _=>rfl) (fun s4=>Af<|Af<|Ab rfl<|Ab rfl<|Aj (Gb (Ag rfl)) fun x6=>Aj (Aw rfl (Ag rfl) (Ag rfl)) fun x7=>Ac<|Aa.cond (Ag rfl) (Aa.skip<|Ah<|A4<|Af<|Ab rfl<|Ab rfl<|Aa.op (HH rfl (Ag rfl) (Ag rfl)) fun x8=>An (KU rfl rfl (Ag rfl)) fun x9=>Ab rfl<|Ab rfl<|Aa.op (HH rfl (Ag rfl) (Ag rfl)) fun x10=>An (KU rfl rfl (Ag rfl)) fun x11=>Aj (JC (I:=IT.u8) rfl (Ag rfl) (Ag rfl)) fun x12=>Ac<|Aa.cond (Ag rfl) (Af<|Ad (Aq En)<|Ac<|C2<|Aa.ret (.one (A8 rfl))) (Aa.skip<|AB<|Ac<|Ab rfl<|Aj (Bf (I:=(IT.int .i64)) (Ag rfl) AK) fun x13=>Ab rfl<|Aa.next x13 sB)) (AH<|DI () sB)) (fun p5=>Bd<|Ah<|Ad (Aq En)<|Ac<|Aa.ret (.one (A8 rfl))))
theorem cY:Spec tb IP [(T.sl T.u8),(T.sl T.u8)] [T.b] (fun a=>RD a.1 a.2):=
 Spec.of lE rfl rfl rfl ZE
noncomputable def MZ(a0:Ao)(a1:Ao):Option Bool:=(Cy (decide (a0.Kind=a1.Kind)) ((RD a0.Bytes a1.Bytes).bind fun x6=>some x6)).bind fun x7=>(Cy x7 (some (Yq HV a0.To a1.To))).bind fun x11=>(Cy x11 (some (Yq (F1.arr 32 F1.u8) a0.Key a1.Key))).bind fun x15=>(Cy x15 (some (decide (a0.Why=a1.Why)))).bind fun x19=>some x19
noncomputable def Z8(a:CF [Ae,Ae]):Cz tb NZ [Ae,Ae] [T.b] a:=Af<|Ai (Eo (t:=Ae) 2 rfl rfl (Ag rfl)) fun _=>Ai (Eo (t:=Ae) 3 rfl rfl (Ag rfl)) fun _=>Ad (Aq En)<|Ah<|Ad (A6 (Ag rfl))<|An (AE (t:=Ae) (u:=(T.int .i64)) (Ag rfl) rfl rfl AN rfl rfl) fun x1=>Ad (A6 (Ag rfl))<|An (AE (t:=Ae) (u:=(T.int .i64)) (Ag rfl) rfl rfl AN rfl rfl) fun x2=>Aj (Aw rfl (Ag rfl) (Ag rfl)) fun x3=>Ab rfl<|Aa.and 5 rfl rfl rfl (AX (A6 (Ag rfl))<|BD (AE (t:=Ae) (u:=(T.sl T.u8)) (Ag rfl) rfl rfl AI rfl rfl) fun x4=>AX (A6 (Ag rfl))<|BD (AE (t:=Ae) (u:=(T.sl T.u8)) (Ag rfl) rfl rfl AI rfl rfl) fun x5=>Bt.op (AD cY (.cons (Ag rfl)<| .one (Ag rfl))) fun x6=>Bt.nil (Ag rfl)) fun x7=>Ab rfl<|Aa.and 5 rfl rfl rfl (AX (A6 (Ag rfl))<|BD (AE (t:=Ae) (u:=Al) (Ag rfl) rfl rfl BB rfl rfl) fun x8=>AX (A6 (Ag rfl))<|BD (AE (t:=Ae) (u:=Al) (Ag rfl) rfl rfl BB rfl rfl) fun x9=>B9 (vL HV rfl rfl (Ag rfl) (Ag rfl)) fun x10=>Bt.nil (Ag rfl)) fun x11=>Ab rfl<|Aa.and 5 rfl rfl rfl (AX (A6 (Ag rfl))<|BD (AE (t:=Ae) (u:=(T.arr 32 T.u8)) (Ag rfl) rfl rfl Cf rfl rfl) fun x12=>AX (A6 (Ag rfl))<|BD (AE (t:=Ae) (u:=(T.arr 32 T.u8)) (Ag rfl) rfl rfl Cf rfl rfl) fun x13=>B9 (vL (F1.arr 32 F1.u8) rfl rfl (Ag rfl) (Ag rfl)) fun x14=>Bt.nil (Ag rfl)) fun x15=>Ab rfl<|Aa.and 5 rfl rfl rfl (AX (A6 (Ag rfl))<|BD (AE (t:=Ae) (u:=(T.int .i64)) (Ag rfl) rfl rfl BN rfl rfl) fun x16=>AX (A6 (Ag rfl))<|BD (AE (t:=Ae) (u:=(T.int .i64)) (Ag rfl) rfl rfl BN rfl rfl) fun x17=>B9 (Aw rfl (Ag rfl) (Ag rfl)) fun x18=>Bt.nil (Ag rfl)) fun x19=>Ab rfl<|
 Ac<|Aa.ret (.one (A8 rfl))
theorem TH:Spec tb HI [Ae,Ae] [T.b] (fun a=>MZ a.1 a.2):=
 Spec.of kY rfl rfl rfl Z8
noncomputable def Nb(a0:Be):Option Bool:=if(decide (a0.V=6))=true then some true else (iter (fun(s3:Int)=>if(decide (s3<16))=true then (Dl 16 s3).bind fun x6=>(a0.B.l[x6]?).bind fun x7=>let x8:= !decide ((x7.toNat:Int)=((0:UInt8).toNat:Int));if x8=true then (some false).map fun r=> .inr (.inr r) else some (.inl (IntKind.i64.wrap (s3+1))) else some (.inr (.inl ()))) 4).bind (Sum.elim (fun(p4:Unit)=>some (decide (a0.V=4))) some)
noncomputable def X6(a:CF [A7]):Cz tb Mz [A7] [T.b] a:=Af<|Ai (Eo (t:=A7) 1 rfl rfl (Ag rfl)) fun _=>Ad (Aq En)<|Ah<|Af<|Ad (A6 (Ag rfl))<|An (AE (t:=A7) (u:=(T.int .i64)) (Ag rfl) rfl rfl E3 rfl rfl) fun x1=>Aj (Aw rfl (Ag rfl) AK) fun x2=>Ac<|Aa.cond (Ag rfl) (Af<|Ad (Aq En)<|Ac<|Aa.ret (.one (A8 rfl))) (Aa.skip<|Ah<|Af<|Ad (Aq AK)<|Ac<|A4<|Aa.loop (id:=0) (σ:=Int) (τ:=Unit) (fun s3=>⟨[(1, .cp 1 0),(3, .val (T.int .i64) s3)],[(1, .cells [(17, .val A7 a)])]⟩) (fun p4=>⟨[(1, .cp 1 0)],[(1, .cells [(17, .val A7 a)])]⟩) 4 sB (fun _=>rfl) (fun s3=>Af<|Af<|Ab rfl<|Aj (Aw rfl (Ag rfl) AK) fun x5=>Ac<|Aa.cond (Ag rfl) (Aa.skip<|Ah<|A4<|Af<|Ab rfl<|Ad (A6 (Ag rfl))<|Aa.op (DS (Ag rfl) (Ag rfl)) fun x6=>Aa.op (JB DZ rfl rfl (Ag rfl) rfl rfl) fun x7=>Aj (JC (I:=IT.u8) rfl (Ag rfl) (XI 0 rfl)) fun x8=>Ac<|Aa.cond (Ag rfl) (Af<|Ad (Aq En)<|Ac<|C2<|Aa.ret (.one (A8 rfl))) (Aa.skip<|AB<|Ac<|Ab rfl<|Aj (Bf (I:=(IT.int .i64)) (Ag rfl) AK) fun x9=>Ab rfl<|Aa.next x9 sB)) (AH<|DI () sB)) (fun p4=>Bd<|Ah<|Ad (A6 (Ag rfl))<|An (AE (t:=A7) (u:=(T.int .i64)) (Ag rfl) rfl rfl E3 rfl rfl) fun x10=>Aj (Aw rfl (Ag rfl) AK) fun x11=>Ab rfl<|Ac<|Aa.ret (.one (A8 rfl))))
theorem Rw:Spec tb GL [A7] [T.b] (fun a=>Nb a):=
 Spec.of gC rfl rfl rfl X6
noncomputable def Na(a0:AF):Option Bool:=(Nb a0.A).bind fun x2=>(Cy x2 (some (decide (1≤a0.Port)))).bind fun x5=>(Cy x5 (some (decide (a0.Port≤65535)))).bind fun x8=>some x8
noncomputable def X5(a:CF [Al]):Cz tb My [Al] [T.b] a:=Af<|Ai (Eo (t:=Al) 1 rfl rfl (Ag rfl)) fun _=>Ad (Aq En)<|Ah<|Ad (A6 (Ag rfl))<|An (AE (t:=Al) (u:=A7) (Ag rfl) rfl rfl Dj rfl rfl) fun x1=>Aa.op (AD Rw (.one (Ag rfl))) fun x2=>Ab rfl<|Aa.and 3 rfl rfl rfl (AX (A6 (Ag rfl))<|BD (AE (t:=Al) (u:=(T.int .i64)) (Ag rfl) rfl rfl Dn rfl rfl) fun x3=>B9 (Aw rfl (Ag rfl) AK) fun x4=>Bt.nil (Ag rfl)) fun x5=>Ab rfl<|Aa.and 3 rfl rfl rfl (AX (A6 (Ag rfl))<|BD (AE (t:=Al) (u:=(T.int .i64)) (Ag rfl) rfl rfl Dn rfl rfl) fun x6=>B9 (Aw rfl (Ag rfl) AK) fun x7=>Bt.nil (Ag rfl)) fun x8=>Ab rfl<|Ac<|Aa.ret (.one (A8 rfl))
theorem Rv:Spec tb GK [Al] [T.b] (fun a=>Na a):=
 Spec.of gB rfl rfl rfl X5
noncomputable def F2(a0:Ao):Option Bool:=let x2:=(⟨a0.Kind, .nil,Al.z,(T.arr 32 T.u8).z,0⟩:Ao);(if(decide (a0.Kind=1))=true then some (.inl (decide (a0.Kind=1))) else some (.inl (decide (a0.Kind=4))):Option (Bool⊕_)).bind (Sum.elim (fun(p7:Bool)=>(if p7=true then some (.inl ({x2 with Bytes:=a0.Bytes})) else if(decide (a0.Kind=2))=true then let x29:={{x2 with Bytes:=a0.Bytes}with To:=a0.To};some (.inl ({x29 with Key:=a0.Key})) else if(decide (a0.Kind=3))=true then let x36:={{x2 with Bytes:=a0.Bytes}with Key:=a0.Key};some (.inl x36) else if(decide (a0.Kind=5))=true then (PF (decide (a0.Why<1)) (some (decide (20<a0.Why)))).bind fun x44=>if x44=true then (some false).map fun r=> .inr r else some (.inl ({x2 with Why:=a0.Why})) else if(decide (a0.Kind=6))=true then let x49:={{x2 with Bytes:=a0.Bytes}with To:=a0.To};some (.inl x49) else (some false).map fun r=> .inr r:Option (Ao⊕_)).bind (Sum.elim (fun(p9:Ao)=>(MZ p9 a0).bind fun x13=>(Cy x13 ((Cy (!decide (a0.Kind=2)) (some (!decide (a0.Kind=6)))).bind fun x18=>(PF x18 ((Na a0.To).bind fun x20=>some x20)).bind fun x21=>some x21)).bind fun x22=>some x22) some)) some)
noncomputable def X4(a:CF [Ae]):Cz tb Mx [Ae] [T.b] a:=Af<|Ai (Eo (t:=Ae) 1 rfl rfl (Ag rfl)) fun _=>Ad (Aq En)<|Ah<|Ad (A6 (Ag rfl))<|An (AE (t:=Ae) (u:=(T.int .i64)) (Ag rfl) rfl rfl AN rfl rfl) fun x1=>Aj (CZ rfl rfl (.cons AN rfl (Ag rfl)<| .nil _)) fun x2=>Ai (CH (t:=Ae) 3 rfl rfl) fun x3=>Ai (Bj (Ag rfl) (Ag rfl) rfl rfl (At _) rfl) fun x4=>Ah<|Af<|Ad (A6 (Ag rfl))<|An (AE (t:=Ae) (u:=(T.int .i64)) (Ag rfl) rfl rfl AN rfl rfl) fun x5=>Ac<|A4<|Af<|Af<|Aj (Aw rfl (Ag rfl) AK) fun x6=>Ab rfl<|Ac<|Hs (τ:=Bool) (fun p7=>⟨[(1, .cp 1 0),(3, .cp 3 0),(8, .val (T.int .i64) x5),(9, .val T.b p7)],[(1, .cells [(53, .val Ae a)]),(3, .cells [(53, .val Ae x4)])]⟩) (fun p7=>Ac<|Hs (τ:=Ao) (fun p9=>⟨[(1, .cp 1 0),(3, .cp 3 0)],[(1, .cells [(53, .val Ae a)]),(3, .cells [(53, .val Ae p9)])]⟩) (fun p9=>AB<|Ah<|An (AE (t:=Ae) (u:=Ae) (Ag rfl) rfl rfl (At _) rfl rfl) fun x11=>An (AE (t:=Ae) (u:=Ae) (Ag rfl) rfl rfl (At _) rfl rfl) fun x12=>Aa.op (AD TH (.cons (Ag rfl)<| .one (Ag rfl))) fun x13=>Ab rfl<|Aa.and 13 rfl rfl rfl (AX (A6 (Ag rfl))<|BD (AE (t:=Ae) (u:=(T.int .i64)) (Ag rfl) rfl rfl AN rfl rfl) fun x14=>B9 (Aw rfl (Ag rfl) AK) fun x15=>AX (Aq (Ag rfl))<|Bt.and 3 rfl rfl rfl rfl rfl (AX (A6 (Ag rfl))<|BD (AE (t:=Ae) (u:=(T.int .i64)) (Ag rfl) rfl rfl AN rfl rfl) fun x16=>B9 (Aw rfl (Ag rfl) AK) fun x17=>Bt.nil (Ag rfl)) fun x18=>AX (Aq (Ag rfl))<|Bt.or 3 rfl rfl rfl rfl rfl (AX (A6 (Ag rfl))<|BD (AE (t:=Ae) (u:=Al) (Ag rfl) rfl rfl BB rfl rfl) fun x19=>Bt.op (AD Rv (.one (Ag rfl))) fun x20=>
 Bt.nil (Ag rfl)) fun x21=>Bt.nil (Ag rfl)) fun x22=>Ab rfl<|Ac<|Aa.ret (.one (A8 rfl)))<|Aa.cond (Ag rfl) (Ad (A6 (Ag rfl))<|An (AE (t:=Ae) (u:=(T.sl T.u8)) (Ag rfl) rfl rfl AI rfl rfl) fun x23=>Ad (A6 (Ag rfl))<|Ai (Bj (Ag rfl) (Ag rfl) rfl rfl AI rfl) fun x24=>Fq x24 sB) (Af<|Aj (Aw rfl (Ag rfl) AK) fun x25=>Ab rfl<|Ac<|Aa.cond (Ag rfl) (Af<|Ad (A6 (Ag rfl))<|An (AE (t:=Ae) (u:=(T.sl T.u8)) (Ag rfl) rfl rfl AI rfl rfl) fun x26=>Ad (A6 (Ag rfl))<|Ai (Bj (Ag rfl) (Ag rfl) rfl rfl AI rfl) fun x27=>Ah<|Ad (A6 (Ag rfl))<|An (AE (t:=Ae) (u:=Al) (Ag rfl) rfl rfl BB rfl rfl) fun x28=>Ad (A6 (Ag rfl))<|Ai (Bj (Ag rfl) (Ag rfl) rfl rfl BB rfl) fun x29=>Ac<|Ad (A6 (Ag rfl))<|An (AE (t:=Ae) (u:=(T.arr 32 T.u8)) (Ag rfl) rfl rfl Cf rfl rfl) fun x30=>Ad (A6 (Ag rfl))<|Ai (Bj (Ag rfl) (Ag rfl) rfl rfl Cf rfl) fun x31=>Fq x31 sB) (Af<|Aj (Aw rfl (Ag rfl) AK) fun x32=>Ab rfl<|Ac<|Aa.cond (Ag rfl) (Af<|Ad (A6 (Ag rfl))<|An (AE (t:=Ae) (u:=(T.sl T.u8)) (Ag rfl) rfl rfl AI rfl rfl) fun x33=>Ad (A6 (Ag rfl))<|Ai (Bj (Ag rfl) (Ag rfl) rfl rfl AI rfl) fun x34=>Ac<|Ad (A6 (Ag rfl))<|An (AE (t:=Ae) (u:=(T.arr 32 T.u8)) (Ag rfl) rfl rfl Cf rfl rfl) fun x35=>Ad (A6 (Ag rfl))<|Ai (Bj (Ag rfl) (Ag rfl) rfl rfl Cf rfl) fun x36=>Fq x36 sB) (Af<|Aj (Aw rfl (Ag rfl) AK) fun x37=>Ab rfl<|Ac<|Aa.cond (Ag rfl) (Af<|Ad (A6 (Ag rfl))<|An (AE (t:=Ae) (u:=(T.int .i64)) (Ag rfl) rfl rfl BN rfl rfl) fun x38=>Ad (A6 (Ag rfl))<|Ai (Bj (Ag rfl) (Ag rfl) rfl rfl BN rfl) fun x39=>Ah<|Ad (A6 (Ag rfl))<|An (AE (t:=Ae) (u:=(T.int .i64)) (Ag rfl) rfl rfl BN rfl rfl) fun x40=>
 Aj (Aw rfl (Ag rfl) AK) fun x41=>Ab rfl<|Aa.or 3 rfl rfl rfl (AX (A6 (Ag rfl))<|BD (AE (t:=Ae) (u:=(T.int .i64)) (Ag rfl) rfl rfl BN rfl rfl) fun x42=>B9 (Aw rfl (Ag rfl) AK) fun x43=>Bt.nil (Ag rfl)) fun x44=>Ac<|Aa.cond (Ag rfl) (Af<|Ad (Aq En)<|Ac<|Xq<|Aa.ret (.one (A8 rfl))) (Aa.skip<|Fq x39 sB)) (Af<|Aj (Aw rfl (Ag rfl) AK) fun x45=>Ab rfl<|Ac<|Aa.cond (Ag rfl) (Af<|Ad (A6 (Ag rfl))<|An (AE (t:=Ae) (u:=(T.sl T.u8)) (Ag rfl) rfl rfl AI rfl rfl) fun x46=>Ad (A6 (Ag rfl))<|Ai (Bj (Ag rfl) (Ag rfl) rfl rfl AI rfl) fun x47=>Ac<|Ad (A6 (Ag rfl))<|An (AE (t:=Ae) (u:=Al) (Ag rfl) rfl rfl BB rfl rfl) fun x48=>Ad (A6 (Ag rfl))<|Ai (Bj (Ag rfl) (Ag rfl) rfl rfl BB rfl) fun x49=>Fq x49 sB) (Af<|Ad (Aq En)<|Ac<|Xq<|Aa.ret (.one (A8 rfl))))))))<|Aa.cond (Ag rfl) (Aa.skip<|Fq x6 sB) (Aj (Aw rfl (Ag rfl) AK) fun x50=>Ab rfl<|Fq x50 sB)
theorem Z1:Spec tb Ia [Ae] [T.b] (fun a=>F2 a):=
 Spec.of gA rfl rfl rfl X4
noncomputable def FN(a0:AR):Option Int:=(iter (fun(s1:Int)=>if(decide (s1≤6))=true then (if(decide (s1=1))=true then (some ():Option Unit).bind (fun(p12:Unit)=>some (.inl (()))) else if(decide (s1=2))=true then (some ():Option Unit).bind (fun(p14:Unit)=>(some ():Option Unit).bind (fun(p15:Unit)=>(some ():Option Unit).bind (fun(p16:Unit)=>some (.inr (.inl (())))))) else if(decide (s1=3))=true then (some ():Option Unit).bind (fun(p18:Unit)=>(some ():Option Unit).bind (fun(p19:Unit)=>some (.inr (.inr (.inl (())))))) else if(decide (s1=4))=true then (some ():Option Unit).bind (fun(p21:Unit)=>some (.inr (.inr (.inr (.inl (())))))) else if(decide (s1=5))=true then (some ():Option Unit).bind (fun(p23:Unit)=>some (.inr (.inr (.inr (.inr (.inl (()))))))) else if(decide (s1=6))=true then (some ():Option Unit).bind (fun(p25:Unit)=>(some ():Option Unit).bind (fun(p26:Unit)=>some (.inr (.inr (.inr (.inr (.inr (.inl (()))))))))) else some (.inr (.inr (.inr (.inr (.inr (.inr (()))))))):Option (Unit⊕(Unit⊕(Unit⊕(Unit⊕(Unit⊕(Unit⊕Unit))))))).bind (Sum.elim (fun(p4:Unit)=>if(decide ([114,101,112,108,121]=a0))=true then (some s1).map fun r=> .inr (.inr r) else some (.inl (IntKind.i64.wrap (s1+1)))) (Sum.elim (fun(p5:Unit)=>if(decide ([115,101,110,100]=a0))=true then (some s1).map fun r=> .inr (.inr r) else some (.inl (IntKind.i64.wrap (s1+1)))) (Sum.elim (fun(p6:Unit)=>let x31:=decide ([100,101,108,105,118,101,114]=a0);if x31=true then (some s1).map fun r=> .inr (.inr r) else some (.inl (IntKind.i64.wrap (s1+1)))) (Sum.elim (fun(p7:Unit)=>
 if(decide ([114,101,102,117,115,101]=a0))=true then (some s1).map fun r=> .inr (.inr r) else some (.inl (IntKind.i64.wrap (s1+1)))) (Sum.elim (fun(p8:Unit)=>if(decide ([100,114,111,112]=a0))=true then (some s1).map fun r=> .inr (.inr r) else some (.inl (IntKind.i64.wrap (s1+1)))) (Sum.elim (fun(p9:Unit)=>if(decide ([112,97,115,115]=a0))=true then (some s1).map fun r=> .inr (.inr r) else some (.inl (IntKind.i64.wrap (s1+1)))) (fun(p10:Unit)=>if(decide ([]=a0))=true then (some s1).map fun r=> .inr (.inr r) else some (.inl (IntKind.i64.wrap (s1+1)))))))))) else some (.inr (.inl ()))) 1).bind (Sum.elim (fun(p2:Unit)=>some 0) some)
noncomputable def V7(a:CF [Ak]):Cz tb Ln [Ak] [(T.int .i64)] a:=Af<|Ad (Aq AK)<|Ah<|Af<|Ad (Aq AK)<|Ac<|A4<|Aa.loop (id:=0) (σ:=Int) (τ:=Unit) (fun s1=>⟨[(0, .val Ak a),(3, .val (T.int .i64) s1)],[]⟩) (fun p2=>⟨[],[]⟩) 1 sB (fun _=>rfl) (fun s1=>Af<|Af<|Ab rfl<|Aj (Aw rfl (Ag rfl) AK) fun x3=>Ac<|Aa.cond (Ag rfl) (Aa.skip<|Ah<|A4<|Af<|Ab rfl<|Aa.inl (τ:=(Unit⊕(Unit⊕(Unit⊕(Unit⊕(Unit⊕(Unit⊕Unit))))))) (φs:=[.val (T.int .i64) s1]) (n:=2) (L:=[(0, .val Ak a),(3, .val (T.int .i64) s1)]) (Γr:=(Sum.elim (fun p4=>⟨[(0, .kv 3560080),(1, .kv 3560120)],[(2000000, .ghost (.val Ak a)),(2000003, .ghost (.val (T.int .i64) s1)),Uo,JI,Un,CV,CD,CC,CB,JH]⟩) (Sum.elim (fun p5=>⟨[(0, .kv 3560080),(1, .kv 3560120)],[(2000000, .ghost (.val Ak a)),(2000003, .ghost (.val (T.int .i64) s1)),Um,Fc,Ul,CV,Bo,Bn,Bm,CY,CX,CW,Fb,DO,DN,DM]⟩) (Sum.elim (fun p6=>⟨[(0, .kv 3560080),(1, .kv 3560120)],[(2000000, .ghost (.val Ak a)),(2000003, .ghost (.val (T.int .i64) s1)),Uk,Hg,Uj,CV,DG,DF,DE,BV,BU,BT,Hf]⟩) (Sum.elim (fun p7=>⟨[(0, .kv 3560080),(1, .kv 3560120)],[(2000000, .ghost (.val Ak a)),(2000003, .ghost (.val (T.int .i64) s1)),Ui,JG,Uh,CV,CD,CC,CB,JF]⟩) (Sum.elim (fun p8=>⟨[(0, .kv 3560080),(1, .kv 3560120)],[(2000000, .ghost (.val Ak a)),(2000003, .ghost (.val (T.int .i64) s1)),Ug,JE,Uf,CV,GB,GA,G9,JD]⟩) (Sum.elim (fun p9=>⟨[(0, .kv 3560080),(1, .kv 3560120)],[(2000000, .ghost (.val Ak a)),(2000003, .ghost (.val (T.int .i64) s1)),Ue,He,Ud,CV,Bo,Bn,Bm,BV,BU,BT,Hd]⟩) (fun p10=>⟨[(0, .kv 3560080),(1, .kv 3560120)],[(2000000, .ghost (.val Ak a)),(2000003, .ghost (.val (T.int .i64) s1)),Uc,Pt,Ub,Ua]⟩)))))))) 2000000 (Sum.elim (fun p4=>⟨[Ri,(0, .val Ak a),(3, .val (T.int .i64) s1)],[Uo,JI,Un,CV,CD,CC,CB,JH]⟩) (Sum.elim (fun p5=>⟨[Ri,(0, .val Ak a),(3, .val (T.int .i64) s1)],[Um,Fc,Ul,CV,Bo,Bn,Bm,CY,CX,CW,Fb,DO,DN,DM]⟩) (Sum.elim (fun p6=>⟨[Ri,(0, .val Ak a),(3, .val (T.int .i64) s1)],[Uk,Hg,Uj,CV,DG,DF,DE,BV,BU,BT,Hf]⟩) (Sum.elim (fun p7=>⟨[Ri,(0, .val Ak a),(3, .val (T.int .i64) s1)],[Ui,JG,Uh,CV,CD,CC,CB,JF]⟩) (Sum.elim (fun p8=>⟨[Ri,(0, .val Ak a),(3, .val (T.int .i64) s1)],[Ug,JE,Uf,CV,GB,GA,G9,JD]⟩) (Sum.elim (fun p9=>⟨[Ri,(0, .val Ak a),(3, .val (T.int .i64) s1)],[Ue,He,Ud,CV,Bo,Bn,Bm,BV,BU,BT,Hd]⟩) (fun p10=>⟨[Ri,(0, .val Ak a),(3, .val (T.int .i64) s1)],[Uc,Pt,Ub,Ua]⟩))))))) Ix rfl rfl rfl (BJ rfl) (.cons (IX (Ag rfl))<| .nil) sB rfl (
 Af<|Ai (AA 2 _ Iq rfl rfl) fun _=>Ad (Aq En)<|Ah<|Af<|Ab rfl<|Ac<|A4<|Af<|Aj (Aw rfl (Ag rfl) AK) fun x11=>Ab rfl<|Ac<|Aa.cond (Ag rfl) (Af<|Aa.inl (τ:=Unit) (φs:=[]) (n:=1) (L:=[(2, .cp 2 0)]) (Γr:=(fun p12=>⟨[H5],[Co,(2000000, .ghost (.val Ak a)),(2000003, .ghost (.val (T.int .i64) s1)),Fx,CD,CC,CB]⟩)) 2100000 (fun p12=>⟨[en_9,(2, .cp 2 0)],[Co,(2000000, .ghost (.val Ak a)),(2000003, .ghost (.val (T.int .i64) s1)),CD,CC,CB]⟩) BL rfl rfl rfl (BJ rfl) (.nil) sB rfl (Af<|Ai (AA 0 _ De rfl rfl) fun _=>Ah<|Ba (Bw (φs:=[.fnv (.func AS) [] [], .fnv (.func AW) [] [], .fnv (.func AU) [] []]) 3600040 (.cons B3<| .cons B3<| .cons B3<| .nil) rfl rfl sB (js:=[3600040,3600041,3600042]) rfl)<|Ai (AT (Ag rfl) (Ag rfl) rfl rfl rfl rfl) fun _=>Ac<|Ay () (.cons (D9 rfl rfl rfl rfl)<| .nil) sB) (fun p12=>Au sB rfl (.one rfl) sB sB) (.one fun p12=>Ai (EX (l:=[[3600040,3600041,3600042]]) 20001008 (.cons (Ag rfl) rfl<| .nil) rfl rfl) fun _=>Ba (Bw (φs:=[.val Ak [114,101,112,108,121], .own 20001008]) 3400360 (.cons Df<| .cons (Ag rfl)<| .nil) rfl rfl sB (js:=[3400360,3400361]) rfl)<|Ai (AT (Ag rfl) (Ag rfl) rfl rfl rfl rfl) fun _=>Ad (Aq En)<|Ac<|BR (js:=[3400360,3400361]) 3560080 2 rfl rfl rfl rfl<|BQ 3560120 3 rfl rfl rfl<|Ay (.inl (())) (.cons (Ei (js:=[3400360,3400361]) (j:=2) (j':=3560080) rfl rfl rfl rfl rfl)<| .cons (CU rfl)<| .nil) sB)) (Af<|Aj (Aw rfl (Ag rfl) AK) fun x13=>Ab rfl<|Ac<|Aa.cond (Ag rfl) (Af<|Aa.inl (τ:=Unit) (φs:=[]) (n:=1) (L:=[(2, .cp 2 0)]) (Γr:=(fun p14=>⟨[H5],[Co,(2000000, .ghost (.val Ak a)),(2000003, .ghost (.val (T.int .i64) s1)),Fx,Bo,Bn,Bm]⟩)) 2100000 (fun p14=>⟨[IU,(2, .cp 2 0)],[Co,(2000000, .ghost (.val Ak a)),(2000003, .ghost (.val (T.int .i64) s1)),Bo,Bn,Bm]⟩) HM rfl rfl rfl (BJ rfl) (.nil) sB rfl (
 Af<|Ai (AA 0 _ De rfl rfl) fun _=>Ah<|Ba (Bw (φs:=[.fnv (.func Ct) [] [], .fnv (.func C4) [] [], .fnv (.func C3) [] []]) 3600040 (.cons B3<| .cons B3<| .cons B3<| .nil) rfl rfl sB (js:=[3600040,3600041,3600042]) rfl)<|Ai (AT (Ag rfl) (Ag rfl) rfl rfl rfl rfl) fun _=>Ac<|Ay () (.cons (D9 rfl rfl rfl rfl)<| .nil) sB) (fun p14=>Au sB rfl (.one rfl) sB sB) (.one fun p14=>Aa.inl (τ:=Unit) (φs:=[]) (n:=1) (L:=[(2, .cp 2 0),IU]) (Γr:=(fun p15=>⟨[O4],[Co,(2000000, .ghost (.val Ak a)),(2000003, .ghost (.val (T.int .i64) s1)),Fx,Up,Bo,Bn,Bm,CY,CX,CW]⟩)) 2100000 (fun p15=>⟨[O5,(2, .cp 2 0),IU],[Co,(2000000, .ghost (.val Ak a)),(2000003, .ghost (.val (T.int .i64) s1)),Bo,Bn,Bm,CY,CX,CW]⟩) G7 rfl rfl rfl (BJ rfl) (.nil) sB rfl (Af<|Ai (AA 0 _ De rfl rfl) fun _=>Ah<|Ba (Bw (φs:=[.fnv (.func BP) [] [], .fnv (.func Ci) [] [], .fnv (.func Ch) [] []]) 13600040 (.cons B3<| .cons B3<| .cons B3<| .nil) rfl rfl sB (js:=[13600040,13600041,13600042]) rfl)<|Ai (AT (Ag rfl) (Ag rfl) rfl rfl rfl rfl) fun _=>Ac<|Ay () (.cons (D9 rfl rfl rfl rfl)<| .nil) sB) (fun p15=>Au sB rfl (.one rfl) sB sB) (.one fun p15=>Aa.inl (τ:=Unit) (φs:=[]) (n:=1) (L:=[(2, .cp 2 0),IU,O5]) (Γr:=(fun p16=>⟨[oA],[Co,(2000000, .ghost (.val Ak a)),(2000003, .ghost (.val (T.int .i64) s1)),Fx,Up,nZ,Bo,Bn,Bm,CY,CX,CW,DO,DN,DM]⟩)) 2100000 (fun p16=>⟨[oB,(2, .cp 2 0),IU,O5],[Co,(2000000, .ghost (.val Ak a)),(2000003, .ghost (.val (T.int .i64) s1)),Bo,Bn,Bm,CY,CX,CW,DO,DN,DM]⟩) BL rfl rfl rfl (BJ rfl) (.nil) sB rfl (Af<|Ai (AA 0 _ De rfl rfl) fun _=>
 Ah<|Ba (Bw (φs:=[.fnv (.func AS) [] [], .fnv (.func AW) [] [], .fnv (.func AU) [] []]) 23600040 (.cons B3<| .cons B3<| .cons B3<| .nil) rfl rfl sB (js:=[23600040,23600041,23600042]) rfl)<|Ai (AT (Ag rfl) (Ag rfl) rfl rfl rfl rfl) fun _=>Ac<|Ay () (.cons (D9 rfl rfl rfl rfl)<| .nil) sB) (fun p16=>Au sB rfl (.one rfl) sB sB) (.one fun p16=>Ai (EX (l:=[[3600040,3600041,3600042],[13600040,13600041,13600042],[23600040,23600041,23600042]]) 20001015 (.cons (Ag rfl) rfl<| .cons (Ag rfl) rfl<| .cons (Ag rfl) rfl<| .nil) rfl rfl) fun _=>Ba (Bw (φs:=[.val Ak [115,101,110,100], .own 20001015]) 3400640 (.cons Df<| .cons (Ag rfl)<| .nil) rfl rfl sB (js:=[3400640,3400641]) rfl)<|Ai (AT (Ag rfl) (Ag rfl) rfl rfl rfl rfl) fun _=>Ad (Aq En)<|Ac<|BR (js:=[3400640,3400641]) 3560080 2 rfl rfl rfl rfl<|BQ 3560120 3 rfl rfl rfl<|Ay (.inr (.inl (()))) (.cons (Ei (js:=[3400640,3400641]) (j:=2) (j':=3560080) rfl rfl rfl rfl rfl)<| .cons (CU rfl)<| .nil) sB)))) (Af<|Aj (Aw rfl (Ag rfl) AK) fun x17=>Ab rfl<|Ac<|Aa.cond (Ag rfl) (Af<|Aa.inl (τ:=Unit) (φs:=[]) (n:=1) (L:=[(2, .cp 2 0)]) (Γr:=(fun p18=>⟨[H5],[Co,(2000000, .ghost (.val Ak a)),(2000003, .ghost (.val (T.int .i64) s1)),Fx,DG,DF,DE]⟩)) 2100000 (fun p18=>⟨[O3,(2, .cp 2 0)],[Co,(2000000, .ghost (.val Ak a)),(2000003, .ghost (.val (T.int .i64) s1)),DG,DF,DE]⟩) G7 rfl rfl rfl (BJ rfl) (.nil) sB rfl (Af<|Ai (AA 0 _ De rfl rfl) fun _=>Ah<|Ba (Bw (φs:=[.fnv (.func BP) [] [], .fnv (.func Ci) [] [], .fnv (.func Ch) [] []]) 3600040 (.cons B3<| .cons B3<| .cons B3<| .nil) rfl rfl sB (js:=[3600040,3600041,3600042]) rfl)<|
 Ai (AT (Ag rfl) (Ag rfl) rfl rfl rfl rfl) fun _=>Ac<|Ay () (.cons (D9 rfl rfl rfl rfl)<| .nil) sB) (fun p18=>Au sB rfl (.one rfl) sB sB) (.one fun p18=>Aa.inl (τ:=Unit) (φs:=[]) (n:=1) (L:=[(2, .cp 2 0),O3]) (Γr:=(fun p19=>⟨[O4],[Co,(2000000, .ghost (.val Ak a)),(2000003, .ghost (.val (T.int .i64) s1)),Fx,nX,DG,DF,DE,BV,BU,BT]⟩)) 2100000 (fun p19=>⟨[nY,(2, .cp 2 0),O3],[Co,(2000000, .ghost (.val Ak a)),(2000003, .ghost (.val (T.int .i64) s1)),DG,DF,DE,BV,BU,BT]⟩) BL rfl rfl rfl (BJ rfl) (.nil) sB rfl (Af<|Ai (AA 0 _ De rfl rfl) fun _=>Ah<|Ba (Bw (φs:=[.fnv (.func AS) [] [], .fnv (.func AW) [] [], .fnv (.func AU) [] []]) 13600040 (.cons B3<| .cons B3<| .cons B3<| .nil) rfl rfl sB (js:=[13600040,13600041,13600042]) rfl)<|Ai (AT (Ag rfl) (Ag rfl) rfl rfl rfl rfl) fun _=>Ac<|Ay () (.cons (D9 rfl rfl rfl rfl)<| .nil) sB) (fun p19=>Au sB rfl (.one rfl) sB sB) (.one fun p19=>Ai (EX (l:=[[3600040,3600041,3600042],[13600040,13600041,13600042]]) 20001021 (.cons (Ag rfl) rfl<| .cons (Ag rfl) rfl<| .nil) rfl rfl) fun _=>Ba (Bw (φs:=[.val Ak [100,101,108,105,118,101,114], .own 20001021]) 3400880 (.cons Df<| .cons (Ag rfl)<| .nil) rfl rfl sB (js:=[3400880,3400881]) rfl)<|Ai (AT (Ag rfl) (Ag rfl) rfl rfl rfl rfl) fun _=>Ad (Aq En)<|Ac<|BR (js:=[3400880,3400881]) 3560080 2 rfl rfl rfl rfl<|BQ 3560120 3 rfl rfl rfl<|Ay (.inr (.inr (.inl (())))) (.cons (Ei (js:=[3400880,3400881]) (j:=2) (j':=3560080) rfl rfl rfl rfl rfl)<| .cons (CU rfl)<| .nil) sB))) (Af<|Aj (Aw rfl (Ag rfl) AK) fun x20=>Ab rfl<|
 Ac<|Aa.cond (Ag rfl) (Af<|Aa.inl (τ:=Unit) (φs:=[]) (n:=1) (L:=[(2, .cp 2 0)]) (Γr:=(fun p21=>⟨[H5],[Co,(2000000, .ghost (.val Ak a)),(2000003, .ghost (.val (T.int .i64) s1)),Fx,CD,CC,CB]⟩)) 2100000 (fun p21=>⟨[nW,(2, .cp 2 0)],[Co,(2000000, .ghost (.val Ak a)),(2000003, .ghost (.val (T.int .i64) s1)),CD,CC,CB]⟩) BL rfl rfl rfl (BJ rfl) (.nil) sB rfl (Af<|Ai (AA 0 _ De rfl rfl) fun _=>Ah<|Ba (Bw (φs:=[.fnv (.func AS) [] [], .fnv (.func AW) [] [], .fnv (.func AU) [] []]) 3600040 (.cons B3<| .cons B3<| .cons B3<| .nil) rfl rfl sB (js:=[3600040,3600041,3600042]) rfl)<|Ai (AT (Ag rfl) (Ag rfl) rfl rfl rfl rfl) fun _=>Ac<|Ay () (.cons (D9 rfl rfl rfl rfl)<| .nil) sB) (fun p21=>Au sB rfl (.one rfl) sB sB) (.one fun p21=>Ai (EX (l:=[[3600040,3600041,3600042]]) 20001026 (.cons (Ag rfl) rfl<| .nil) rfl rfl) fun _=>Ba (Bw (φs:=[.val Ak [114,101,102,117,115,101], .own 20001026]) 3401080 (.cons Df<| .cons (Ag rfl)<| .nil) rfl rfl sB (js:=[3401080,3401081]) rfl)<|Ai (AT (Ag rfl) (Ag rfl) rfl rfl rfl rfl) fun _=>Ad (Aq En)<|Ac<|BR (js:=[3401080,3401081]) 3560080 2 rfl rfl rfl rfl<|BQ 3560120 3 rfl rfl rfl<|Ay (.inr (.inr (.inr (.inl (()))))) (.cons (Ei (js:=[3401080,3401081]) (j:=2) (j':=3560080) rfl rfl rfl rfl rfl)<| .cons (CU rfl)<| .nil) sB)) (Af<|Aj (Aw rfl (Ag rfl) AK) fun x22=>Ab rfl<|Ac<|Aa.cond (Ag rfl) (Af<|Aa.inl (τ:=Unit) (φs:=[]) (n:=1) (L:=[(2, .cp 2 0)]) (Γr:=(fun p23=>⟨[H5],[Co,(2000000, .ghost (.val Ak a)),(2000003, .ghost (.val (T.int .i64) s1)),Fx,GB,GA,G9]⟩)) 2100000 (fun p23=>⟨[nV,(2, .cp 2 0)],[Co,(2000000, .ghost (.val Ak a)),(2000003, .ghost (.val (T.int .i64) s1)),GB,GA,G9]⟩) Mr rfl rfl rfl (BJ rfl) (.nil) sB rfl (
 Af<|Ai (AA 0 _ De rfl rfl) fun _=>Ah<|Ba (Bw (φs:=[.fnv (.func Da) [] [], .fnv (.func Dv) [] [], .fnv (.func Du) [] []]) 3600040 (.cons B3<| .cons B3<| .cons B3<| .nil) rfl rfl sB (js:=[3600040,3600041,3600042]) rfl)<|Ai (AT (Ag rfl) (Ag rfl) rfl rfl rfl rfl) fun _=>Ac<|Ay () (.cons (D9 rfl rfl rfl rfl)<| .nil) sB) (fun p23=>Au sB rfl (.one rfl) sB sB) (.one fun p23=>Ai (EX (l:=[[3600040,3600041,3600042]]) 20001031 (.cons (Ag rfl) rfl<| .nil) rfl rfl) fun _=>Ba (Bw (φs:=[.val Ak [100,114,111,112], .own 20001031]) 3401280 (.cons Df<| .cons (Ag rfl)<| .nil) rfl rfl sB (js:=[3401280,3401281]) rfl)<|Ai (AT (Ag rfl) (Ag rfl) rfl rfl rfl rfl) fun _=>Ad (Aq En)<|Ac<|BR (js:=[3401280,3401281]) 3560080 2 rfl rfl rfl rfl<|BQ 3560120 3 rfl rfl rfl<|Ay (.inr (.inr (.inr (.inr (.inl (())))))) (.cons (Ei (js:=[3401280,3401281]) (j:=2) (j':=3560080) rfl rfl rfl rfl rfl)<| .cons (CU rfl)<| .nil) sB)) (Af<|Aj (Aw rfl (Ag rfl) AK) fun x24=>Ab rfl<|Ac<|Aa.cond (Ag rfl) (Af<|Aa.inl (τ:=Unit) (φs:=[]) (n:=1) (L:=[(2, .cp 2 0)]) (Γr:=(fun p25=>⟨[H5],[Co,(2000000, .ghost (.val Ak a)),(2000003, .ghost (.val (T.int .i64) s1)),Fx,Bo,Bn,Bm]⟩)) 2100000 (fun p25=>⟨[O2,(2, .cp 2 0)],[Co,(2000000, .ghost (.val Ak a)),(2000003, .ghost (.val (T.int .i64) s1)),Bo,Bn,Bm]⟩) HM rfl rfl rfl (BJ rfl) (.nil) sB rfl (Af<|Ai (AA 0 _ De rfl rfl) fun _=>Ah<|Ba (Bw (φs:=[.fnv (.func Ct) [] [], .fnv (.func C4) [] [], .fnv (.func C3) [] []]) 3600040 (.cons B3<| .cons B3<| .cons B3<| .nil) rfl rfl sB (js:=[3600040,3600041,3600042]) rfl)<|
 Ai (AT (Ag rfl) (Ag rfl) rfl rfl rfl rfl) fun _=>Ac<|Ay () (.cons (D9 rfl rfl rfl rfl)<| .nil) sB) (fun p25=>Au sB rfl (.one rfl) sB sB) (.one fun p25=>Aa.inl (τ:=Unit) (φs:=[]) (n:=1) (L:=[(2, .cp 2 0),O2]) (Γr:=(fun p26=>⟨[O4],[Co,(2000000, .ghost (.val Ak a)),(2000003, .ghost (.val (T.int .i64) s1)),Fx,nT,Bo,Bn,Bm,BV,BU,BT]⟩)) 2100000 (fun p26=>⟨[nU,(2, .cp 2 0),O2],[Co,(2000000, .ghost (.val Ak a)),(2000003, .ghost (.val (T.int .i64) s1)),Bo,Bn,Bm,BV,BU,BT]⟩) BL rfl rfl rfl (BJ rfl) (.nil) sB rfl (Af<|Ai (AA 0 _ De rfl rfl) fun _=>Ah<|Ba (Bw (φs:=[.fnv (.func AS) [] [], .fnv (.func AW) [] [], .fnv (.func AU) [] []]) 13600040 (.cons B3<| .cons B3<| .cons B3<| .nil) rfl rfl sB (js:=[13600040,13600041,13600042]) rfl)<|Ai (AT (Ag rfl) (Ag rfl) rfl rfl rfl rfl) fun _=>Ac<|Ay () (.cons (D9 rfl rfl rfl rfl)<| .nil) sB) (fun p26=>Au sB rfl (.one rfl) sB sB) (.one fun p26=>Ai (EX (l:=[[3600040,3600041,3600042],[13600040,13600041,13600042]]) 20001037 (.cons (Ag rfl) rfl<| .cons (Ag rfl) rfl<| .nil) rfl rfl) fun _=>Ba (Bw (φs:=[.val Ak [112,97,115,115], .own 20001037]) 3401520 (.cons Df<| .cons (Ag rfl)<| .nil) rfl rfl sB (js:=[3401520,3401521]) rfl)<|Ai (AT (Ag rfl) (Ag rfl) rfl rfl rfl rfl) fun _=>Ad (Aq En)<|Ac<|BR (js:=[3401520,3401521]) 3560080 2 rfl rfl rfl rfl<|BQ 3560120 3 rfl rfl rfl<|Ay (.inr (.inr (.inr (.inr (.inr (.inl (()))))))) (.cons (Ei (js:=[3401520,3401521]) (j:=2) (j':=3560080) rfl rfl rfl rfl rfl)<| .cons (CU rfl)<| .nil) sB))) (Aa.skip<|AB<|Ah<|Ba (cC (zero:=[.s [], .nils]) (φs:=[.val Ak Ak.z, .con (.nils)]) 3401560 (fun _ _ _ _=>⟨(.inr ⟨rfl,Ak.hz _ _⟩),⟨rfl,rfl,rfl⟩,trivial⟩) rfl rfl sB (js:=[3401560,3401561]) rfl)<|
 Ai (AT (Ag rfl) (Ag rfl) rfl rfl rfl rfl) fun _=>Ad (Aq En)<|Ac<|BR (js:=[3401560,3401561]) 3560080 2 rfl rfl rfl rfl<|BQ 3560120 3 rfl rfl rfl<|Ay (.inr (.inr (.inr (.inr (.inr (.inr (()))))))) (.cons (Ei (js:=[3401560,3401561]) (j:=2) (j':=3560080) rfl rfl rfl rfl rfl)<| .cons (CU rfl)<| .nil) sB))))))) (DJ (fun p4=>Au sB rfl (.kvs rfl (by intro i p h;match i,h with|0,h=>(cases h;rfl)|1,h=>(cases h;rfl)|(_+2),h=>simp at h)) sB sB) (DJ (fun p5=>Au sB rfl (.kvs rfl (by intro i p h;match i,h with|0,h=>(cases h;rfl)|1,h=>(cases h;rfl)|(_+2),h=>simp at h)) sB sB) (DJ (fun p6=>Au sB rfl (.kvs rfl (by intro i p h;match i,h with|0,h=>(cases h;rfl)|1,h=>(cases h;rfl)|(_+2),h=>simp at h)) sB sB) (DJ (fun p7=>Au sB rfl (.kvs rfl (by intro i p h;match i,h with|0,h=>(cases h;rfl)|1,h=>(cases h;rfl)|(_+2),h=>simp at h)) sB sB) (DJ (fun p8=>Au sB rfl (.kvs rfl (by intro i p h;match i,h with|0,h=>(cases h;rfl)|1,h=>(cases h;rfl)|(_+2),h=>simp at h)) sB sB) (DJ (fun p9=>Au sB rfl (.kvs rfl (by intro i p h;match i,h with|0,h=>(cases h;rfl)|1,h=>(cases h;rfl)|(_+2),h=>simp at h)) sB sB) (fun p10=>Au sB rfl (.kvs rfl (by intro i p h;match i,h with|0,h=>(cases h;rfl)|1,h=>(cases h;rfl)|(_+2),h=>simp at h)) sB sB))))))) (.alt (.one fun p4=>Ab rfl<|Ad (BA (Ag rfl) rfl)<|Ad (BA (Ag rfl) rfl)<|Ai (AA 4 _ Iq rfl rfl) fun _=>Ai (AT (Ag rfl) (Bh rfl rfl) rfl rfl rfl rfl) fun _=>Ad (Aq (Bh rfl rfl))<|Ah<|Ad (A6 (Ag rfl))<|Ad (Bp (Ag rfl) rfl rfl rfl)<|Ab rfl<|Aj (HG (Bh rfl rfl) (Ag rfl)) fun x27=>Ac<|Aa.cond (Ag rfl) (
 Af<|Ab rfl<|Ab rfl<|Ac<|C2<|Aa.ret (.one (A8 rfl))) (Aa.skip<|AB<|Ac<|Ab rfl<|Aj (Bf (I:=(IT.int .i64)) (Ag rfl) AK) fun x28=>Ab rfl<|Aa.next x28 sB)) (.alt (.one fun p5=>Ab rfl<|Ad (BA (Ag rfl) rfl)<|Ad (BA (Ag rfl) rfl)<|Ai (AA 4 _ Iq rfl rfl) fun _=>Ai (AT (Ag rfl) (Bh rfl rfl) rfl rfl rfl rfl) fun _=>Ad (Aq (Bh rfl rfl))<|Ah<|Ad (A6 (Ag rfl))<|Ad (Bp (Ag rfl) rfl rfl rfl)<|Ab rfl<|Aj (HG (Bh rfl rfl) (Ag rfl)) fun x29=>Ac<|Aa.cond (Ag rfl) (Af<|Ab rfl<|Ab rfl<|Ac<|C2<|Aa.ret (.one (A8 rfl))) (Aa.skip<|AB<|Ac<|Ab rfl<|Aj (Bf (I:=(IT.int .i64)) (Ag rfl) AK) fun x30=>Ab rfl<|Aa.next x30 sB)) (.alt (.one fun p6=>Ab rfl<|Ad (BA (Ag rfl) rfl)<|Ad (BA (Ag rfl) rfl)<|Ai (AA 4 _ Iq rfl rfl) fun _=>Ai (AT (Ag rfl) (Bh rfl rfl) rfl rfl rfl rfl) fun _=>Ad (Aq (Bh rfl rfl))<|Ah<|Ad (A6 (Ag rfl))<|Ad (Bp (Ag rfl) rfl rfl rfl)<|Ab rfl<|Aj (HG (Bh rfl rfl) (Ag rfl)) fun x31=>Ac<|Aa.cond (Ag rfl) (Af<|Ab rfl<|Ab rfl<|Ac<|C2<|Aa.ret (.one (A8 rfl))) (Aa.skip<|AB<|Ac<|Ab rfl<|Aj (Bf (I:=(IT.int .i64)) (Ag rfl) AK) fun x32=>Ab rfl<|Aa.next x32 sB)) (.alt (.one fun p7=>Ab rfl<|Ad (BA (Ag rfl) rfl)<|Ad (BA (Ag rfl) rfl)<|Ai (AA 4 _ Iq rfl rfl) fun _=>Ai (AT (Ag rfl) (Bh rfl rfl) rfl rfl rfl rfl) fun _=>Ad (Aq (Bh rfl rfl))<|Ah<|Ad (A6 (Ag rfl))<|Ad (Bp (Ag rfl) rfl rfl rfl)<|Ab rfl<|Aj (HG (Bh rfl rfl) (Ag rfl)) fun x33=>Ac<|Aa.cond (Ag rfl) (Af<|Ab rfl<|Ab rfl<|Ac<|C2<|Aa.ret (.one (A8 rfl))) (Aa.skip<|AB<|Ac<|Ab rfl<|Aj (Bf (I:=(IT.int .i64)) (Ag rfl) AK) fun x34=>Ab rfl<|Aa.next x34 sB)) (.alt (.one fun p8=>
 Ab rfl<|Ad (BA (Ag rfl) rfl)<|Ad (BA (Ag rfl) rfl)<|Ai (AA 4 _ Iq rfl rfl) fun _=>Ai (AT (Ag rfl) (Bh rfl rfl) rfl rfl rfl rfl) fun _=>Ad (Aq (Bh rfl rfl))<|Ah<|Ad (A6 (Ag rfl))<|Ad (Bp (Ag rfl) rfl rfl rfl)<|Ab rfl<|Aj (HG (Bh rfl rfl) (Ag rfl)) fun x35=>Ac<|Aa.cond (Ag rfl) (Af<|Ab rfl<|Ab rfl<|Ac<|C2<|Aa.ret (.one (A8 rfl))) (Aa.skip<|AB<|Ac<|Ab rfl<|Aj (Bf (I:=(IT.int .i64)) (Ag rfl) AK) fun x36=>Ab rfl<|Aa.next x36 sB)) (.alt (.one fun p9=>Ab rfl<|Ad (BA (Ag rfl) rfl)<|Ad (BA (Ag rfl) rfl)<|Ai (AA 4 _ Iq rfl rfl) fun _=>Ai (AT (Ag rfl) (Bh rfl rfl) rfl rfl rfl rfl) fun _=>Ad (Aq (Bh rfl rfl))<|Ah<|Ad (A6 (Ag rfl))<|Ad (Bp (Ag rfl) rfl rfl rfl)<|Ab rfl<|Aj (HG (Bh rfl rfl) (Ag rfl)) fun x37=>Ac<|Aa.cond (Ag rfl) (Af<|Ab rfl<|Ab rfl<|Ac<|C2<|Aa.ret (.one (A8 rfl))) (Aa.skip<|AB<|Ac<|Ab rfl<|Aj (Bf (I:=(IT.int .i64)) (Ag rfl) AK) fun x38=>Ab rfl<|Aa.next x38 sB)) (.one fun p10=>Ab rfl<|Ad (BA (Ag rfl) rfl)<|Ad (BA (Ag rfl) rfl)<|Ai (AA 4 _ Iq rfl rfl) fun _=>Ai (AT (Ag rfl) (Bh rfl rfl) rfl rfl rfl rfl) fun _=>Ad (Aq (Bh rfl rfl))<|Ah<|Ad (A6 (Ag rfl))<|Ad (Bp (Ag rfl) rfl rfl rfl)<|Ab rfl<|Aj (HG (Bh rfl rfl) (Ag rfl)) fun x39=>Ac<|Aa.cond (Ag rfl) (Af<|Ab rfl<|Ab rfl<|Ac<|C2<|Aa.ret (.one (A8 rfl))) (Aa.skip<|AB<|Ac<|Ab rfl<|Aj (Bf (I:=(IT.int .i64)) (Ag rfl) AK) fun x40=>Ab rfl<|Aa.next x40 sB))))))))) (AH<|DI () sB)) (fun p2=>Bd<|Ah<|Ad (Aq AK)<|Ac<|Aa.ret (.one (A8 rfl)))
theorem Xy:Spec tb Hl [Ak] [(T.int .i64)] (fun a=>FN a):=
 Spec.of aV rfl rfl rfl V7
noncomputable def C6(a0:AR):Option (Ao×Int):=(Hb ([32]:AR) 0).bind fun x2=>(IJ a0 x2).bind fun x3=>(Hb x3.l 0).bind fun x4=>(FN x4).bind fun x6=>let x7:=(⟨x6, .nil,Al.z,(T.arr 32 T.u8).z,0⟩:Ao);(if(decide (x7.Kind=1))=true then (some ():Option Unit).bind (fun(p19:Unit)=>some (.inl (()))) else if(decide (x7.Kind=2))=true then (some ():Option Unit).bind (fun(p21:Unit)=>(some ():Option Unit).bind (fun(p22:Unit)=>(some ():Option Unit).bind (fun(p23:Unit)=>some (.inr (.inl (())))))) else if(decide (x7.Kind=3))=true then (some ():Option Unit).bind (fun(p25:Unit)=>(some ():Option Unit).bind (fun(p26:Unit)=>some (.inr (.inr (.inl (())))))) else if(decide (x7.Kind=4))=true then (some ():Option Unit).bind (fun(p28:Unit)=>some (.inr (.inr (.inr (.inl (())))))) else if(decide (x7.Kind=5))=true then (some ():Option Unit).bind (fun(p30:Unit)=>some (.inr (.inr (.inr (.inr (.inl (()))))))) else if(decide (x7.Kind=6))=true then (some ():Option Unit).bind (fun(p32:Unit)=>(some ():Option Unit).bind (fun(p33:Unit)=>some (.inr (.inr (.inr (.inr (.inr (.inl (()))))))))) else some (.inr (.inr (.inr (.inr (.inr (.inr (()))))))):Option (Unit⊕(Unit⊕(Unit⊕(Unit⊕(Unit⊕(Unit⊕Unit))))))).bind (Sum.elim (fun(p11:Unit)=>if(!true)=true then let x35:=(⟨0, .nil,Al.z,(T.arr 32 T.u8).z,0⟩:Ao);some (x35,12) else let x39:= !decide (IntKind.i64.wrap ((x3.l.length:Int)-1)=1);if x39=true then let x40:=(⟨0, .nil,Al.z,(T.arr 32 T.u8).z,0⟩:Ao);some (x40,5) else (Hb x3.l 1).bind fun x42=>((F9 x42).bind fun x45=>some (x45.2,{x7 with Bytes:=x45.1})).bind (fun(p44:(Int×Ao))=>
 if(!decide (p44.1=0))=true then let x50:=(⟨0, .nil,Al.z,(T.arr 32 T.u8).z,0⟩:Ao);some (x50,p44.1) else some (p44.2,0))) (Sum.elim (fun(p12:Unit)=>if(!true)=true then let x55:=(⟨0, .nil,Al.z,(T.arr 32 T.u8).z,0⟩:Ao);some (x55,12) else let x59:= !decide (IntKind.i64.wrap ((x3.l.length:Int)-1)=3);if x59=true then let x60:=(⟨0, .nil,Al.z,(T.arr 32 T.u8).z,0⟩:Ao);some (x60,5) else (Hb x3.l 1).bind fun x62=>((Gq x62).bind fun x65=>some (x65.2,{x7 with To:=x65.1})).bind (fun(p64:(Int×Ao))=>if(!decide (p64.1=0))=true then let x70:=(⟨0, .nil,Al.z,(T.arr 32 T.u8).z,0⟩:Ao);some (x70,p64.1) else (Hb x3.l 2).bind fun x72=>((Hj x72).bind fun x75=>some (x75.2,{p64.2 with Key:=x75.1})).bind (fun(p74:(Int×Ao))=>if(!decide (p74.1=0))=true then let x80:=(⟨0, .nil,Al.z,(T.arr 32 T.u8).z,0⟩:Ao);some (x80,p74.1) else (Hb x3.l 3).bind fun x82=>((F9 x82).bind fun x85=>some (x85.2,{p74.2 with Bytes:=x85.1})).bind (fun(p84:(Int×Ao))=>if(!decide (p84.1=0))=true then let x90:=(⟨0, .nil,Al.z,(T.arr 32 T.u8).z,0⟩:Ao);some (x90,p84.1) else some (p84.2,0))))) (Sum.elim (fun(p13:Unit)=>if(!true)=true then let x95:=(⟨0, .nil,Al.z,(T.arr 32 T.u8).z,0⟩:Ao);some (x95,12) else let x99:= !decide (IntKind.i64.wrap ((x3.l.length:Int)-1)=2);if x99=true then let x100:=(⟨0, .nil,Al.z,(T.arr 32 T.u8).z,0⟩:Ao);some (x100,5) else (Hb x3.l 1).bind fun x102=>((Hj x102).bind fun x105=>some (x105.2,{x7 with Key:=x105.1})).bind (fun(p104:(Int×Ao))=>if(!decide (p104.1=0))=true then let x110:=(⟨0, .nil,Al.z,(T.arr 32 T.u8).z,0⟩:Ao)
 some (x110,p104.1) else (Hb x3.l 2).bind fun x112=>((F9 x112).bind fun x115=>some (x115.2,{p104.2 with Bytes:=x115.1})).bind (fun(p114:(Int×Ao))=>if(!decide (p114.1=0))=true then let x120:=(⟨0, .nil,Al.z,(T.arr 32 T.u8).z,0⟩:Ao);some (x120,p114.1) else some (p114.2,0)))) (Sum.elim (fun(p14:Unit)=>if(!true)=true then let x125:=(⟨0, .nil,Al.z,(T.arr 32 T.u8).z,0⟩:Ao);some (x125,12) else let x129:= !decide (IntKind.i64.wrap ((x3.l.length:Int)-1)=1);if x129=true then let x130:=(⟨0, .nil,Al.z,(T.arr 32 T.u8).z,0⟩:Ao);some (x130,5) else (Hb x3.l 1).bind fun x132=>((F9 x132).bind fun x135=>some (x135.2,{x7 with Bytes:=x135.1})).bind (fun(p134:(Int×Ao))=>if(!decide (p134.1=0))=true then let x140:=(⟨0, .nil,Al.z,(T.arr 32 T.u8).z,0⟩:Ao);some (x140,p134.1) else some (p134.2,0))) (Sum.elim (fun(p15:Unit)=>if(!true)=true then let x145:=(⟨0, .nil,Al.z,(T.arr 32 T.u8).z,0⟩:Ao);some (x145,12) else let x149:= !decide (IntKind.i64.wrap ((x3.l.length:Int)-1)=1);if x149=true then let x150:=(⟨0, .nil,Al.z,(T.arr 32 T.u8).z,0⟩:Ao);some (x150,5) else (Hb x3.l 1).bind fun x152=>((GQ x152 (20:UInt64)).bind fun x155=>let x159:={x7 with Why:=IntKind.i64.wrap (x155.1.toNat:Int)};(Cy (decide (x155.2=0)) ((Ly x159.Why).bind fun x162=>some (!x162))).bind fun x164=>if x164=true then some (6,x159) else some (x155.2,x159)).bind (fun(p154:(Int×Ao))=>if(!decide (p154.1=0))=true then let x166:=(⟨0, .nil,Al.z,(T.arr 32 T.u8).z,0⟩:Ao);some (x166,p154.1) else some (p154.2,0))) (Sum.elim (fun(p16:Unit)=>if(!true)=true then
 let x171:=(⟨0, .nil,Al.z,(T.arr 32 T.u8).z,0⟩:Ao);some (x171,12) else let x175:= !decide (IntKind.i64.wrap ((x3.l.length:Int)-1)=2);if x175=true then let x176:=(⟨0, .nil,Al.z,(T.arr 32 T.u8).z,0⟩:Ao);some (x176,5) else (Hb x3.l 1).bind fun x178=>((Gq x178).bind fun x181=>some (x181.2,{x7 with To:=x181.1})).bind (fun(p180:(Int×Ao))=>if(!decide (p180.1=0))=true then let x186:=(⟨0, .nil,Al.z,(T.arr 32 T.u8).z,0⟩:Ao);some (x186,p180.1) else (Hb x3.l 2).bind fun x188=>((F9 x188).bind fun x191=>some (x191.2,{p180.2 with Bytes:=x191.1})).bind (fun(p190:(Int×Ao))=>if(!decide (p190.1=0))=true then let x196:=(⟨0, .nil,Al.z,(T.arr 32 T.u8).z,0⟩:Ao);some (x196,p190.1) else some (p190.2,0)))) (fun(p17:Unit)=>if(!false)=true then let x201:=(⟨0, .nil,Al.z,(T.arr 32 T.u8).z,0⟩:Ao);some (x201,12) else let x205:= !decide (IntKind.i64.wrap ((x3.l.length:Int)-1)=0);if x205=true then let x206:=(⟨0, .nil,Al.z,(T.arr 32 T.u8).z,0⟩:Ao);some (x206,5) else some (x7,0))))))))
noncomputable def U5(a:CF [Ak]):Cz tb Kn [Ak] [Ae,(T.int .i64)] a:=Af<|Ai (CH (t:=Ae) 2 rfl rfl) fun x1=>Ad (Aq AK)<|Ah<|Ab rfl<|Aa.op (H4 Df AK) fun x2=>Aa.op (AD OO (.cons (Ag rfl)<| .one (Ag rfl))) fun x3=>Ab rfl<|Ah<|Ab rfl<|Aa.op (HH rfl (Ag rfl) AK) fun x4=>An (KU rfl rfl (Ag rfl)) fun x5=>Aa.op (AD Xy (.one (Ag rfl))) fun x6=>Aj (CZ rfl rfl (.cons AN rfl (Ag rfl)<| .nil _)) fun x7=>Ai (CH (t:=Ae) 5 rfl rfl) fun x8=>Ai (Bj (Ag rfl) (Ag rfl) rfl rfl (At _) rfl) fun x9=>Ah<|Ad (A6 (Ag rfl))<|An (AE (t:=Ae) (u:=(T.int .i64)) (Ag rfl) rfl rfl AN rfl rfl) fun x10=>Aa.inl (τ:=(Unit⊕(Unit⊕(Unit⊕(Unit⊕(Unit⊕(Unit⊕Unit))))))) (φs:=[.val (T.int .i64) x10]) (n:=2) (L:=[(2, .cp 2 0),(4, .val (T.sl Ak) x3),(5, .cp 5 0)]) (Γr:=(Sum.elim (fun p11=>⟨[(0, .kv 3560080),(1, .kv 3560120)],[(2, .cells [(53, .val Ae x1)]),(5, .cells [(53, .val Ae x9)]),EA,(2000004, .ghost (.val (T.sl Ak) x3)),Gf,Uo,JI,Un,CV,CD,CC,CB,JH]⟩) (Sum.elim (fun p12=>⟨[(0, .kv 3560080),(1, .kv 3560120)],[(2, .cells [(53, .val Ae x1)]),(5, .cells [(53, .val Ae x9)]),EA,(2000004, .ghost (.val (T.sl Ak) x3)),Gf,Um,Fc,Ul,CV,Bo,Bn,Bm,CY,CX,CW,Fb,DO,DN,DM]⟩) (Sum.elim (fun p13=>⟨[(0, .kv 3560080),(1, .kv 3560120)],[(2, .cells [(53, .val Ae x1)]),(5, .cells [(53, .val Ae x9)]),EA,(2000004, .ghost (.val (T.sl Ak) x3)),Gf,Uk,Hg,Uj,CV,DG,DF,DE,BV,BU,BT,Hf]⟩) (Sum.elim (fun p14=>⟨[(0, .kv 3560080),(1, .kv 3560120)],[(2, .cells [(53, .val Ae x1)]),(5, .cells [(53, .val Ae x9)]),EA,(2000004, .ghost (.val (T.sl Ak) x3)),Gf,Ui,JG,Uh,CV,CD,CC,CB,JF]⟩) (Sum.elim (fun p15=>⟨[(0, .kv 3560080),(1, .kv 3560120)],[(2, .cells [(53, .val Ae x1)]),(5, .cells [(53, .val Ae x9)]),EA,(2000004, .ghost (.val (T.sl Ak) x3)),Gf,Ug,JE,Uf,CV,GB,GA,G9,JD]⟩) (Sum.elim (fun p16=>⟨[(0, .kv 3560080),(1, .kv 3560120)],[(2, .cells [(53, .val Ae x1)]),(5, .cells [(53, .val Ae x9)]),EA,(2000004, .ghost (.val (T.sl Ak) x3)),Gf,Ue,He,Ud,CV,Bo,Bn,Bm,BV,BU,BT,Hd]⟩) (fun p17=>⟨[(0, .kv 3560080),(1, .kv 3560120)],[(2, .cells [(53, .val Ae x1)]),(5, .cells [(53, .val Ae x9)]),EA,(2000004, .ghost (.val (T.sl Ak) x3)),Gf,Uc,Pt,Ub,Ua]⟩)))))))) 2000000 (Sum.elim (fun p11=>⟨[Rh,(2, .cp 2 0),(4, .val (T.sl Ak) x3),(5, .cp 5 0)],[(2, .cells [(53, .val Ae x1)]),(5, .cells [(53, .val Ae x9)]),Uo,JI,Un,CV,CD,CC,CB,JH]⟩) (Sum.elim (fun p12=>⟨[Rh,(2, .cp 2 0),(4, .val (T.sl Ak) x3),(5, .cp 5 0)],[(2, .cells [(53, .val Ae x1)]),(5, .cells [(53, .val Ae x9)]),Um,Fc,Ul,CV,Bo,Bn,Bm,CY,CX,CW,Fb,DO,DN,DM]⟩) (Sum.elim (fun p13=>⟨[Rh,(2, .cp 2 0),(4, .val (T.sl Ak) x3),(5, .cp 5 0)],[(2, .cells [(53, .val Ae x1)]),(5, .cells [(53, .val Ae x9)]),Uk,Hg,Uj,CV,DG,DF,DE,BV,BU,BT,Hf]⟩) (Sum.elim (fun p14=>⟨[Rh,(2, .cp 2 0),(4, .val (T.sl Ak) x3),(5, .cp 5 0)],[(2, .cells [(53, .val Ae x1)]),(5, .cells [(53, .val Ae x9)]),Ui,JG,Uh,CV,CD,CC,CB,JF]⟩) (Sum.elim (fun p15=>⟨[Rh,(2, .cp 2 0),(4, .val (T.sl Ak) x3),(5, .cp 5 0)],[(2, .cells [(53, .val Ae x1)]),(5, .cells [(53, .val Ae x9)]),Ug,JE,Uf,CV,GB,GA,G9,JD]⟩) (Sum.elim (fun p16=>⟨[Rh,(2, .cp 2 0),(4, .val (T.sl Ak) x3),(5, .cp 5 0)],[(2, .cells [(53, .val Ae x1)]),(5, .cells [(53, .val Ae x9)]),Ue,He,Ud,CV,Bo,Bn,Bm,BV,BU,BT,Hd]⟩) (fun p17=>⟨[Rh,(2, .cp 2 0),(4, .val (T.sl Ak) x3),(5, .cp 5 0)],[(2, .cells [(53, .val Ae x1)]),(5, .cells [(53, .val Ae x9)]),Uc,Pt,Ub,Ua]⟩))))))) Ix rfl rfl rfl (BJ rfl) (.cons (IX (Ag rfl))<| .nil) sB rfl (
 Af<|Ai (AA 1002 _ Iq rfl rfl) fun _=>Ad (Aq En)<|Ah<|Af<|Ab rfl<|Ac<|A4<|Af<|Aj (Aw rfl (Ag rfl) AK) fun x18=>Ab rfl<|Ac<|Aa.cond (Ag rfl) (Af<|Aa.inl (τ:=Unit) (φs:=[]) (n:=1) (L:=[(2, .cp 1002 0)]) (Γr:=(fun p19=>⟨[H5],[(2, .cells [(53, .val Ae x1)]),(5, .cells [(53, .val Ae x9)]),G0,EA,(2000004, .ghost (.val (T.sl Ak) x3)),Gf,MJ,CD,CC,CB]⟩)) 2100000 (fun p19=>⟨[en_9,(2, .cp 1002 0)],[(2, .cells [(53, .val Ae x1)]),(5, .cells [(53, .val Ae x9)]),G0,EA,(2000004, .ghost (.val (T.sl Ak) x3)),Gf,CD,CC,CB]⟩) BL rfl rfl rfl (BJ rfl) (.nil) sB rfl (Af<|Ai (AA 0 _ De rfl rfl) fun _=>Ah<|Ba (Bw (φs:=[.fnv (.func AS) [] [], .fnv (.func AW) [] [], .fnv (.func AU) [] []]) 3600040 (.cons B3<| .cons B3<| .cons B3<| .nil) rfl rfl sB (js:=[3600040,3600041,3600042]) rfl)<|Ai (AT (Ag rfl) (Ag rfl) rfl rfl rfl rfl) fun _=>Ac<|Ay () (.cons (D9 rfl rfl rfl rfl)<| .nil) sB) (fun p19=>Au sB rfl (.one rfl) sB sB) (.one fun p19=>Ai (EX (l:=[[3600040,3600041,3600042]]) 20001008 (.cons (Ag rfl) rfl<| .nil) rfl rfl) fun _=>Ba (Bw (φs:=[.val Ak [114,101,112,108,121], .own 20001008]) 3400360 (.cons Df<| .cons (Ag rfl)<| .nil) rfl rfl sB (js:=[3400360,3400361]) rfl)<|Ai (AT (Ag rfl) (Ag rfl) rfl rfl rfl rfl) fun _=>Ad (Aq En)<|Ac<|BR (js:=[3400360,3400361]) 3560080 2 rfl rfl rfl rfl<|BQ 3560120 3 rfl rfl rfl<|Ay (.inl (())) (.cons (Ei (js:=[3400360,3400361]) (j:=1002) (j':=3560080) rfl rfl rfl rfl rfl)<| .cons (CU rfl)<| .nil) sB)) (Af<|Aj (Aw rfl (Ag rfl) AK) fun x20=>Ab rfl<|Ac<|Aa.cond (Ag rfl) (Af<|Aa.inl (τ:=Unit) (φs:=[]) (n:=1) (L:=[(2, .cp 1002 0)]) (Γr:=(fun p21=>⟨[H5],[(2, .cells [(53, .val Ae x1)]),(5, .cells [(53, .val Ae x9)]),G0,EA,(2000004, .ghost (.val (T.sl Ak) x3)),Gf,MJ,Bo,Bn,Bm]⟩)) 2100000 (fun p21=>⟨[IU,(2, .cp 1002 0)],[(2, .cells [(53, .val Ae x1)]),(5, .cells [(53, .val Ae x9)]),G0,EA,(2000004, .ghost (.val (T.sl Ak) x3)),Gf,Bo,Bn,Bm]⟩) HM rfl rfl rfl (BJ rfl) (.nil) sB rfl (
 Af<|Ai (AA 0 _ De rfl rfl) fun _=>Ah<|Ba (Bw (φs:=[.fnv (.func Ct) [] [], .fnv (.func C4) [] [], .fnv (.func C3) [] []]) 3600040 (.cons B3<| .cons B3<| .cons B3<| .nil) rfl rfl sB (js:=[3600040,3600041,3600042]) rfl)<|Ai (AT (Ag rfl) (Ag rfl) rfl rfl rfl rfl) fun _=>Ac<|Ay () (.cons (D9 rfl rfl rfl rfl)<| .nil) sB) (fun p21=>Au sB rfl (.one rfl) sB sB) (.one fun p21=>Aa.inl (τ:=Unit) (φs:=[]) (n:=1) (L:=[(2, .cp 1002 0),IU]) (Γr:=(fun p22=>⟨[O4],[(2, .cells [(53, .val Ae x1)]),(5, .cells [(53, .val Ae x9)]),G0,EA,(2000004, .ghost (.val (T.sl Ak) x3)),Gf,MJ,Up,Bo,Bn,Bm,CY,CX,CW]⟩)) 2100000 (fun p22=>⟨[O5,(2, .cp 1002 0),IU],[(2, .cells [(53, .val Ae x1)]),(5, .cells [(53, .val Ae x9)]),G0,EA,(2000004, .ghost (.val (T.sl Ak) x3)),Gf,Bo,Bn,Bm,CY,CX,CW]⟩) G7 rfl rfl rfl (BJ rfl) (.nil) sB rfl (Af<|Ai (AA 0 _ De rfl rfl) fun _=>Ah<|Ba (Bw (φs:=[.fnv (.func BP) [] [], .fnv (.func Ci) [] [], .fnv (.func Ch) [] []]) 13600040 (.cons B3<| .cons B3<| .cons B3<| .nil) rfl rfl sB (js:=[13600040,13600041,13600042]) rfl)<|Ai (AT (Ag rfl) (Ag rfl) rfl rfl rfl rfl) fun _=>Ac<|Ay () (.cons (D9 rfl rfl rfl rfl)<| .nil) sB) (fun p22=>Au sB rfl (.one rfl) sB sB) (.one fun p22=>Aa.inl (τ:=Unit) (φs:=[]) (n:=1) (L:=[(2, .cp 1002 0),IU,O5]) (Γr:=(fun p23=>⟨[oA],[(2, .cells [(53, .val Ae x1)]),(5, .cells [(53, .val Ae x9)]),G0,EA,(2000004, .ghost (.val (T.sl Ak) x3)),Gf,MJ,Up,nZ,Bo,Bn,Bm,CY,CX,CW,DO,DN,DM]⟩)) 2100000 (fun p23=>⟨[oB,(2, .cp 1002 0),IU,O5],[(2, .cells [(53, .val Ae x1)]),(5, .cells [(53, .val Ae x9)]),G0,EA,(2000004, .ghost (.val (T.sl Ak) x3)),Gf,Bo,Bn,Bm,CY,CX,CW,DO,DN,DM]⟩) BL rfl rfl rfl (BJ rfl) (.nil) sB rfl (
 Af<|Ai (AA 0 _ De rfl rfl) fun _=>Ah<|Ba (Bw (φs:=[.fnv (.func AS) [] [], .fnv (.func AW) [] [], .fnv (.func AU) [] []]) 23600040 (.cons B3<| .cons B3<| .cons B3<| .nil) rfl rfl sB (js:=[23600040,23600041,23600042]) rfl)<|Ai (AT (Ag rfl) (Ag rfl) rfl rfl rfl rfl) fun _=>Ac<|Ay () (.cons (D9 rfl rfl rfl rfl)<| .nil) sB) (fun p23=>Au sB rfl (.one rfl) sB sB) (.one fun p23=>Ai (EX (l:=[[3600040,3600041,3600042],[13600040,13600041,13600042],[23600040,23600041,23600042]]) 20001015 (.cons (Ag rfl) rfl<| .cons (Ag rfl) rfl<| .cons (Ag rfl) rfl<| .nil) rfl rfl) fun _=>Ba (Bw (φs:=[.val Ak [115,101,110,100], .own 20001015]) 3400640 (.cons Df<| .cons (Ag rfl)<| .nil) rfl rfl sB (js:=[3400640,3400641]) rfl)<|Ai (AT (Ag rfl) (Ag rfl) rfl rfl rfl rfl) fun _=>Ad (Aq En)<|Ac<|BR (js:=[3400640,3400641]) 3560080 2 rfl rfl rfl rfl<|BQ 3560120 3 rfl rfl rfl<|Ay (.inr (.inl (()))) (.cons (Ei (js:=[3400640,3400641]) (j:=1002) (j':=3560080) rfl rfl rfl rfl rfl)<| .cons (CU rfl)<| .nil) sB)))) (Af<|Aj (Aw rfl (Ag rfl) AK) fun x24=>Ab rfl<|Ac<|Aa.cond (Ag rfl) (Af<|Aa.inl (τ:=Unit) (φs:=[]) (n:=1) (L:=[(2, .cp 1002 0)]) (Γr:=(fun p25=>⟨[H5],[(2, .cells [(53, .val Ae x1)]),(5, .cells [(53, .val Ae x9)]),G0,EA,(2000004, .ghost (.val (T.sl Ak) x3)),Gf,MJ,DG,DF,DE]⟩)) 2100000 (fun p25=>⟨[O3,(2, .cp 1002 0)],[(2, .cells [(53, .val Ae x1)]),(5, .cells [(53, .val Ae x9)]),G0,EA,(2000004, .ghost (.val (T.sl Ak) x3)),Gf,DG,DF,DE]⟩) G7 rfl rfl rfl (BJ rfl) (.nil) sB rfl (Af<|Ai (AA 0 _ De rfl rfl) fun _=>Ah<|Ba (Bw (φs:=[.fnv (.func BP) [] [], .fnv (.func Ci) [] [], .fnv (.func Ch) [] []]) 3600040 (.cons B3<| .cons B3<| .cons B3<| .nil) rfl rfl sB (js:=[3600040,3600041,3600042]) rfl)<|
 Ai (AT (Ag rfl) (Ag rfl) rfl rfl rfl rfl) fun _=>Ac<|Ay () (.cons (D9 rfl rfl rfl rfl)<| .nil) sB) (fun p25=>Au sB rfl (.one rfl) sB sB) (.one fun p25=>Aa.inl (τ:=Unit) (φs:=[]) (n:=1) (L:=[(2, .cp 1002 0),O3]) (Γr:=(fun p26=>⟨[O4],[(2, .cells [(53, .val Ae x1)]),(5, .cells [(53, .val Ae x9)]),G0,EA,(2000004, .ghost (.val (T.sl Ak) x3)),Gf,MJ,nX,DG,DF,DE,BV,BU,BT]⟩)) 2100000 (fun p26=>⟨[nY,(2, .cp 1002 0),O3],[(2, .cells [(53, .val Ae x1)]),(5, .cells [(53, .val Ae x9)]),G0,EA,(2000004, .ghost (.val (T.sl Ak) x3)),Gf,DG,DF,DE,BV,BU,BT]⟩) BL rfl rfl rfl (BJ rfl) (.nil) sB rfl (Af<|Ai (AA 0 _ De rfl rfl) fun _=>Ah<|Ba (Bw (φs:=[.fnv (.func AS) [] [], .fnv (.func AW) [] [], .fnv (.func AU) [] []]) 13600040 (.cons B3<| .cons B3<| .cons B3<| .nil) rfl rfl sB (js:=[13600040,13600041,13600042]) rfl)<|Ai (AT (Ag rfl) (Ag rfl) rfl rfl rfl rfl) fun _=>Ac<|Ay () (.cons (D9 rfl rfl rfl rfl)<| .nil) sB) (fun p26=>Au sB rfl (.one rfl) sB sB) (.one fun p26=>Ai (EX (l:=[[3600040,3600041,3600042],[13600040,13600041,13600042]]) 20001021 (.cons (Ag rfl) rfl<| .cons (Ag rfl) rfl<| .nil) rfl rfl) fun _=>Ba (Bw (φs:=[.val Ak [100,101,108,105,118,101,114], .own 20001021]) 3400880 (.cons Df<| .cons (Ag rfl)<| .nil) rfl rfl sB (js:=[3400880,3400881]) rfl)<|Ai (AT (Ag rfl) (Ag rfl) rfl rfl rfl rfl) fun _=>Ad (Aq En)<|Ac<|BR (js:=[3400880,3400881]) 3560080 2 rfl rfl rfl rfl<|BQ 3560120 3 rfl rfl rfl<|Ay (.inr (.inr (.inl (())))) (.cons (Ei (js:=[3400880,3400881]) (j:=1002) (j':=3560080) rfl rfl rfl rfl rfl)<| .cons (CU rfl)<| .nil) sB))) (
 Af<|Aj (Aw rfl (Ag rfl) AK) fun x27=>Ab rfl<|Ac<|Aa.cond (Ag rfl) (Af<|Aa.inl (τ:=Unit) (φs:=[]) (n:=1) (L:=[(2, .cp 1002 0)]) (Γr:=(fun p28=>⟨[H5],[(2, .cells [(53, .val Ae x1)]),(5, .cells [(53, .val Ae x9)]),G0,EA,(2000004, .ghost (.val (T.sl Ak) x3)),Gf,MJ,CD,CC,CB]⟩)) 2100000 (fun p28=>⟨[nW,(2, .cp 1002 0)],[(2, .cells [(53, .val Ae x1)]),(5, .cells [(53, .val Ae x9)]),G0,EA,(2000004, .ghost (.val (T.sl Ak) x3)),Gf,CD,CC,CB]⟩) BL rfl rfl rfl (BJ rfl) (.nil) sB rfl (Af<|Ai (AA 0 _ De rfl rfl) fun _=>Ah<|Ba (Bw (φs:=[.fnv (.func AS) [] [], .fnv (.func AW) [] [], .fnv (.func AU) [] []]) 3600040 (.cons B3<| .cons B3<| .cons B3<| .nil) rfl rfl sB (js:=[3600040,3600041,3600042]) rfl)<|Ai (AT (Ag rfl) (Ag rfl) rfl rfl rfl rfl) fun _=>Ac<|Ay () (.cons (D9 rfl rfl rfl rfl)<| .nil) sB) (fun p28=>Au sB rfl (.one rfl) sB sB) (.one fun p28=>Ai (EX (l:=[[3600040,3600041,3600042]]) 20001026 (.cons (Ag rfl) rfl<| .nil) rfl rfl) fun _=>Ba (Bw (φs:=[.val Ak [114,101,102,117,115,101], .own 20001026]) 3401080 (.cons Df<| .cons (Ag rfl)<| .nil) rfl rfl sB (js:=[3401080,3401081]) rfl)<|Ai (AT (Ag rfl) (Ag rfl) rfl rfl rfl rfl) fun _=>Ad (Aq En)<|Ac<|BR (js:=[3401080,3401081]) 3560080 2 rfl rfl rfl rfl<|BQ 3560120 3 rfl rfl rfl<|Ay (.inr (.inr (.inr (.inl (()))))) (.cons (Ei (js:=[3401080,3401081]) (j:=1002) (j':=3560080) rfl rfl rfl rfl rfl)<| .cons (CU rfl)<| .nil) sB)) (Af<|Aj (Aw rfl (Ag rfl) AK) fun x29=>Ab rfl<|Ac<|Aa.cond (Ag rfl) (Af<|Aa.inl (τ:=Unit) (φs:=[]) (n:=1) (L:=[(2, .cp 1002 0)]) (Γr:=(fun p30=>⟨[H5],[(2, .cells [(53, .val Ae x1)]),(5, .cells [(53, .val Ae x9)]),G0,EA,(2000004, .ghost (.val (T.sl Ak) x3)),Gf,MJ,GB,GA,G9]⟩)) 2100000 (fun p30=>⟨[nV,(2, .cp 1002 0)],[(2, .cells [(53, .val Ae x1)]),(5, .cells [(53, .val Ae x9)]),G0,EA,(2000004, .ghost (.val (T.sl Ak) x3)),Gf,GB,GA,G9]⟩) Mr rfl rfl rfl (BJ rfl) (.nil) sB rfl (
 Af<|Ai (AA 0 _ De rfl rfl) fun _=>Ah<|Ba (Bw (φs:=[.fnv (.func Da) [] [], .fnv (.func Dv) [] [], .fnv (.func Du) [] []]) 3600040 (.cons B3<| .cons B3<| .cons B3<| .nil) rfl rfl sB (js:=[3600040,3600041,3600042]) rfl)<|Ai (AT (Ag rfl) (Ag rfl) rfl rfl rfl rfl) fun _=>Ac<|Ay () (.cons (D9 rfl rfl rfl rfl)<| .nil) sB) (fun p30=>Au sB rfl (.one rfl) sB sB) (.one fun p30=>Ai (EX (l:=[[3600040,3600041,3600042]]) 20001031 (.cons (Ag rfl) rfl<| .nil) rfl rfl) fun _=>Ba (Bw (φs:=[.val Ak [100,114,111,112], .own 20001031]) 3401280 (.cons Df<| .cons (Ag rfl)<| .nil) rfl rfl sB (js:=[3401280,3401281]) rfl)<|Ai (AT (Ag rfl) (Ag rfl) rfl rfl rfl rfl) fun _=>Ad (Aq En)<|Ac<|BR (js:=[3401280,3401281]) 3560080 2 rfl rfl rfl rfl<|BQ 3560120 3 rfl rfl rfl<|Ay (.inr (.inr (.inr (.inr (.inl (())))))) (.cons (Ei (js:=[3401280,3401281]) (j:=1002) (j':=3560080) rfl rfl rfl rfl rfl)<| .cons (CU rfl)<| .nil) sB)) (Af<|Aj (Aw rfl (Ag rfl) AK) fun x31=>Ab rfl<|Ac<|Aa.cond (Ag rfl) (Af<|Aa.inl (τ:=Unit) (φs:=[]) (n:=1) (L:=[(2, .cp 1002 0)]) (Γr:=(fun p32=>⟨[H5],[(2, .cells [(53, .val Ae x1)]),(5, .cells [(53, .val Ae x9)]),G0,EA,(2000004, .ghost (.val (T.sl Ak) x3)),Gf,MJ,Bo,Bn,Bm]⟩)) 2100000 (fun p32=>⟨[O2,(2, .cp 1002 0)],[(2, .cells [(53, .val Ae x1)]),(5, .cells [(53, .val Ae x9)]),G0,EA,(2000004, .ghost (.val (T.sl Ak) x3)),Gf,Bo,Bn,Bm]⟩) HM rfl rfl rfl (BJ rfl) (.nil) sB rfl (Af<|Ai (AA 0 _ De rfl rfl) fun _=>Ah<|Ba (Bw (φs:=[.fnv (.func Ct) [] [], .fnv (.func C4) [] [], .fnv (.func C3) [] []]) 3600040 (.cons B3<| .cons B3<| .cons B3<| .nil) rfl rfl sB (js:=[3600040,3600041,3600042]) rfl)<|
 Ai (AT (Ag rfl) (Ag rfl) rfl rfl rfl rfl) fun _=>Ac<|Ay () (.cons (D9 rfl rfl rfl rfl)<| .nil) sB) (fun p32=>Au sB rfl (.one rfl) sB sB) (.one fun p32=>Aa.inl (τ:=Unit) (φs:=[]) (n:=1) (L:=[(2, .cp 1002 0),O2]) (Γr:=(fun p33=>⟨[O4],[(2, .cells [(53, .val Ae x1)]),(5, .cells [(53, .val Ae x9)]),G0,EA,(2000004, .ghost (.val (T.sl Ak) x3)),Gf,MJ,nT,Bo,Bn,Bm,BV,BU,BT]⟩)) 2100000 (fun p33=>⟨[nU,(2, .cp 1002 0),O2],[(2, .cells [(53, .val Ae x1)]),(5, .cells [(53, .val Ae x9)]),G0,EA,(2000004, .ghost (.val (T.sl Ak) x3)),Gf,Bo,Bn,Bm,BV,BU,BT]⟩) BL rfl rfl rfl (BJ rfl) (.nil) sB rfl (Af<|Ai (AA 0 _ De rfl rfl) fun _=>Ah<|Ba (Bw (φs:=[.fnv (.func AS) [] [], .fnv (.func AW) [] [], .fnv (.func AU) [] []]) 13600040 (.cons B3<| .cons B3<| .cons B3<| .nil) rfl rfl sB (js:=[13600040,13600041,13600042]) rfl)<|Ai (AT (Ag rfl) (Ag rfl) rfl rfl rfl rfl) fun _=>Ac<|Ay () (.cons (D9 rfl rfl rfl rfl)<| .nil) sB) (fun p33=>Au sB rfl (.one rfl) sB sB) (.one fun p33=>Ai (EX (l:=[[3600040,3600041,3600042],[13600040,13600041,13600042]]) 20001037 (.cons (Ag rfl) rfl<| .cons (Ag rfl) rfl<| .nil) rfl rfl) fun _=>Ba (Bw (φs:=[.val Ak [112,97,115,115], .own 20001037]) 3401520 (.cons Df<| .cons (Ag rfl)<| .nil) rfl rfl sB (js:=[3401520,3401521]) rfl)<|Ai (AT (Ag rfl) (Ag rfl) rfl rfl rfl rfl) fun _=>Ad (Aq En)<|Ac<|BR (js:=[3401520,3401521]) 3560080 2 rfl rfl rfl rfl<|BQ 3560120 3 rfl rfl rfl<|Ay (.inr (.inr (.inr (.inr (.inr (.inl (()))))))) (.cons (Ei (js:=[3401520,3401521]) (j:=1002) (j':=3560080) rfl rfl rfl rfl rfl)<| .cons (CU rfl)<| .nil) sB))) (
 Aa.skip<|AB<|Ah<|Ba (cC (zero:=[.s [], .nils]) (φs:=[.val Ak Ak.z, .con (.nils)]) 3401560 (fun _ _ _ _=>⟨(.inr ⟨rfl,Ak.hz _ _⟩),⟨rfl,rfl,rfl⟩,trivial⟩) rfl rfl sB (js:=[3401560,3401561]) rfl)<|Ai (AT (Ag rfl) (Ag rfl) rfl rfl rfl rfl) fun _=>Ad (Aq En)<|Ac<|BR (js:=[3401560,3401561]) 3560080 2 rfl rfl rfl rfl<|BQ 3560120 3 rfl rfl rfl<|Ay (.inr (.inr (.inr (.inr (.inr (.inr (()))))))) (.cons (Ei (js:=[3401560,3401561]) (j:=1002) (j':=3560080) rfl rfl rfl rfl rfl)<| .cons (CU rfl)<| .nil) sB))))))) (DJ (fun p11=>Au sB rfl (.kvs rfl (by intro i p h;match i,h with|0,h=>(cases h;rfl)|1,h=>(cases h;rfl)|(_+2),h=>simp at h)) sB sB) (DJ (fun p12=>Au sB rfl (.kvs rfl (by intro i p h;match i,h with|0,h=>(cases h;rfl)|1,h=>(cases h;rfl)|(_+2),h=>simp at h)) sB sB) (DJ (fun p13=>Au sB rfl (.kvs rfl (by intro i p h;match i,h with|0,h=>(cases h;rfl)|1,h=>(cases h;rfl)|(_+2),h=>simp at h)) sB sB) (DJ (fun p14=>Au sB rfl (.kvs rfl (by intro i p h;match i,h with|0,h=>(cases h;rfl)|1,h=>(cases h;rfl)|(_+2),h=>simp at h)) sB sB) (DJ (fun p15=>Au sB rfl (.kvs rfl (by intro i p h;match i,h with|0,h=>(cases h;rfl)|1,h=>(cases h;rfl)|(_+2),h=>simp at h)) sB sB) (DJ (fun p16=>Au sB rfl (.kvs rfl (by intro i p h;match i,h with|0,h=>(cases h;rfl)|1,h=>(cases h;rfl)|(_+2),h=>simp at h)) sB sB) (fun p17=>Au sB rfl (.kvs rfl (by intro i p h;match i,h with|0,h=>(cases h;rfl)|1,h=>(cases h;rfl)|(_+2),h=>simp at h)) sB sB))))))) (.alt (.one fun p11=>Ab rfl<|Ad (BA (Ag rfl) rfl)<|Ad (BA (Ag rfl) rfl)<|Ai (AA 6 _ Iq rfl rfl) fun _=>
 Ai (AT (Ag rfl) (Bh rfl rfl) rfl rfl rfl rfl) fun _=>Ad (Aq (Bh rfl rfl))<|Ah<|A4<|Af<|Ab rfl<|Aj (Gs (Ag rfl)) fun x34=>Ab rfl<|Ac<|Aa.cond (Ag rfl) (Af<|Aj (CZ rfl rfl (.nil _)) fun x35=>Ai (Bj (Ag rfl) (Ag rfl) rfl rfl (At _) rfl) fun x36=>Ad (Aq AK)<|Ac<|Aa.ret (.cons (Cs rfl rfl rfl (At _) rfl rfl)<| .one (A8 rfl))) (Af<|Ab rfl<|Aj (Gb (Ag rfl)) fun x37=>Aj (FG (I:=(IT.int .i64)) (Ag rfl) AK) fun x38=>Ad (A6 (Ag rfl))<|Ad (Bp (Ag rfl) rfl rfl rfl)<|Ad (ES (n:=1) (Bh rfl rfl) rfl rfl)<|Aj (Aw rfl (Ag rfl) (Ag rfl)) fun x39=>Ab rfl<|Ac<|Aa.cond (Ag rfl) (Af<|Aj (CZ rfl rfl (.nil _)) fun x40=>Ai (Bj (Ag rfl) (Ag rfl) rfl rfl (At _) rfl) fun x41=>Ad (Aq AK)<|Ac<|Aa.ret (.cons (Cs rfl rfl rfl (At _) rfl rfl)<| .one (A8 rfl))) (Aa.skip<|AB<|Ah<|Af<|Ad (A6 (Ag rfl))<|Ad (Bp (Ag rfl) rfl rfl rfl)<|Ad (ES (n:=1) (Bh rfl rfl) rfl rfl)<|Ad (Aq AK)<|Ac<|A4<|AP (Γ':=⟨[(2, .cp 2 0),(4, .val (T.sl Ak) x3),(5, .cp 5 0),(39, .kv 3400361),KZ,GP],[(2, .cells [(53, .val Ae x1)]),(5, .cells [(53, .val Ae x9)]),JI,CD,CC,CB,JH]⟩) sB rfl<|Af<|Ad (Br (t:=T.b) (y:=true) (Aw rfl (Ag rfl) (Ag rfl)) rfl)<|Ah<|B7 (Ag rfl)<|Aa.skip<|Ah<|A4<|Af<|Ab rfl<|Ad (DK (i:=0) (Bh rfl rfl) rfl rfl (Ag rfl) rfl (by decide))<|Ad (Fw (Ag rfl) rfl rfl rfl)<|Ai (AA 9 _ De rfl rfl) fun _=>Ab rfl<|Ai (AT (Ag rfl) (Ag rfl) rfl rfl rfl rfl) fun _=>Ah<|Aa.regd 1<|Ap rfl (A6 (Ag rfl))<|Ap rfl (Bp (Ag rfl) rfl rfl rfl)<|Ap rfl (Aq (Ag rfl))<|Ap rfl (Aq (Ag rfl))<|Ap rfl (Br (t:=T.int .i64) (y:=(1:Int)) (Bf (I:=(IT.int .i64)) (Ag rfl) AK) rfl)<|
 A0.op rfl (HH rfl (Ag rfl) (Ag rfl)) fun x42=>Dx rfl (KU rfl rfl (Ag rfl)) fun x43=>A0.inl (τ:=(Int×Ao)) (φs:=[.cp 5 0, .val Ak x43]) (n:=1) (L:=[(2, .cp 2 0),(4, .val (T.sl Ak) x3),(5, .cp 5 0),(39, .kv 3400361),KZ,GP]) (Γr:=(fun p44=>⟨[(0, .val (T.int .i64) p44.1)],[(2, .cells [(53, .val Ae x1)]),(5, .cells [(53, .val Ae p44.2)]),EA,(2000004, .ghost (.val (T.sl Ak) x3)),Gf,(2000039, .ghost (.kv 3400361)),lN,Tt,JI,CD,CC,CB,JH]⟩)) rfl (.nil) 2000000 (fun p44=>⟨[(53, .val (T.int .i64) p44.1),(2, .cp 2 0),(4, .val (T.sl Ak) x3),(5, .cp 5 0),(39, .kv 3400361),KZ,GP],[(2, .cells [(53, .val Ae x1)]),(5, .cells [(53, .val Ae p44.2)]),JI,CD,CC,CB,JH]⟩) (fun _=> .nil) HO rfl rfl rfl (CG (Bh rfl rfl) rfl) (.cons (IX (Ag rfl))<| .cons (IX (Ag rfl))<| .nil) sB rfl (Af<|Ad (Aq AK)<|Ah<|Ab rfl<|Ab rfl<|Aa.op (Cd GX (.one (Ag rfl))) fun x45=>Ab rfl<|An (Bs (Ag rfl) rfl) fun x46=>An (Bs (Ag rfl) rfl) fun x47=>Ad (Bv (Ag rfl))<|Ad (A6 (Ag rfl))<|Ai (Bj (Ag rfl) (Ag rfl) rfl rfl AI rfl) fun x48=>Ab rfl<|Ah<|Ab rfl<|Ab rfl<|Ac<|Ay (x47,x48) (.cons (CU rfl)<| .nil) sB) (fun p44=>Au sB rfl (.one rfl) trivial sB) fun p44=>Ap rfl (Aq (Ag rfl))<|Cc<|Ah<|Ab rfl<|Aj (Aw rfl (Ag rfl) AK) fun x49=>Ac<|Aa.cond (Ag rfl) (Af<|Aj (CZ rfl rfl (.nil _)) fun x50=>Ab rfl<|Ai (Bj (Ag rfl) (Ag rfl) rfl rfl (At _) rfl) fun x51=>Ab rfl<|Ac<|Aa.ret (.cons (Cs rfl rfl rfl (At _) rfl rfl)<| .one (A8 rfl))) (Aa.skip<|AB<|Ac<|Ad (Br (t:=T.int .i64) (y:=(1:Int)) (Bf (I:=(IT.int .i64)) (Ag rfl) AK) rfl)<|Ab rfl<|Ac<|AP (Γ':=⟨[(2, .cp 2 0),(4, .val (T.sl Ak) x3),(5, .cp 5 0),(39, .kv 3400361),KZ,KY],[(2, .cells [(53, .val Ae x1)]),(5, .cells [(53, .val Ae p44.2)]),JI,CD,CC,CB,JH]⟩) sB rfl<|
 Af<|Ad (Br (t:=T.b) (y:=false) (Aw rfl (Ag rfl) (Ag rfl)) rfl)<|Ah<|C9 (Ag rfl)<|AH<|AH<|Bd<|Ah<|An (AE (t:=Ae) (u:=Ae) (Ag rfl) rfl rfl (At _) rfl rfl) fun x52=>Ai (Bj (Ag rfl) (Ag rfl) rfl rfl (At _) rfl) fun x53=>Ad (Aq AK)<|Ac<|Aa.ret (.cons (Cs rfl rfl rfl (At _) rfl rfl)<| .one (A8 rfl)))))) (.alt (.one fun p12=>Ab rfl<|Ad (BA (Ag rfl) rfl)<|Ad (BA (Ag rfl) rfl)<|Ai (AA 6 _ Iq rfl rfl) fun _=>Ai (AT (Ag rfl) (Bh rfl rfl) rfl rfl rfl rfl) fun _=>Ad (Aq (Bh rfl rfl))<|Ah<|A4<|Af<|Ab rfl<|Aj (Gs (Ag rfl)) fun x54=>Ab rfl<|Ac<|Aa.cond (Ag rfl) (Af<|Aj (CZ rfl rfl (.nil _)) fun x55=>Ai (Bj (Ag rfl) (Ag rfl) rfl rfl (At _) rfl) fun x56=>Ad (Aq AK)<|Ac<|Aa.ret (.cons (Cs rfl rfl rfl (At _) rfl rfl)<| .one (A8 rfl))) (Af<|Ab rfl<|Aj (Gb (Ag rfl)) fun x57=>Aj (FG (I:=(IT.int .i64)) (Ag rfl) AK) fun x58=>Ad (A6 (Ag rfl))<|Ad (Bp (Ag rfl) rfl rfl rfl)<|Ad (ES (n:=3) (Bh rfl rfl) rfl rfl)<|Aj (Aw rfl (Ag rfl) (Ag rfl)) fun x59=>Ab rfl<|Ac<|Aa.cond (Ag rfl) (Af<|Aj (CZ rfl rfl (.nil _)) fun x60=>Ai (Bj (Ag rfl) (Ag rfl) rfl rfl (At _) rfl) fun x61=>Ad (Aq AK)<|Ac<|Aa.ret (.cons (Cs rfl rfl rfl (At _) rfl rfl)<| .one (A8 rfl))) (Aa.skip<|AB<|Ah<|Af<|Ad (A6 (Ag rfl))<|Ad (Bp (Ag rfl) rfl rfl rfl)<|Ad (ES (n:=3) (Bh rfl rfl) rfl rfl)<|Ad (Aq AK)<|Ac<|A4<|AP (Γ':=⟨[(2, .cp 2 0),(4, .val (T.sl Ak) x3),(5, .cp 5 0),(39, .kv 3400641),MI,GP],[(2, .cells [(53, .val Ae x1)]),(5, .cells [(53, .val Ae x9)]),Fc,Bo,Bn,Bm,CY,CX,CW,Fb,DO,DN,DM]⟩) sB rfl<|Af<|Ad (Br (t:=T.b) (y:=true) (Aw rfl (Ag rfl) (Ag rfl)) rfl)<|
 Ah<|B7 (Ag rfl)<|Aa.skip<|Ah<|A4<|Af<|Ab rfl<|Ad (DK (i:=0) (Bh rfl rfl) rfl rfl (Ag rfl) rfl (by decide))<|Ad (Fw (Ag rfl) rfl rfl rfl)<|Ai (AA 9 _ De rfl rfl) fun _=>Ab rfl<|Ai (AT (Ag rfl) (Ag rfl) rfl rfl rfl rfl) fun _=>Ah<|Aa.regd 1<|Ap rfl (A6 (Ag rfl))<|Ap rfl (Bp (Ag rfl) rfl rfl rfl)<|Ap rfl (Aq (Ag rfl))<|Ap rfl (Aq (Ag rfl))<|Ap rfl (Br (t:=T.int .i64) (y:=(1:Int)) (Bf (I:=(IT.int .i64)) (Ag rfl) AK) rfl)<|A0.op rfl (HH rfl (Ag rfl) (Ag rfl)) fun x62=>Dx rfl (KU rfl rfl (Ag rfl)) fun x63=>A0.inl (τ:=(Int×Ao)) (φs:=[.cp 5 0, .val Ak x63]) (n:=1) (L:=[(2, .cp 2 0),(4, .val (T.sl Ak) x3),(5, .cp 5 0),(39, .kv 3400641),MI,GP]) (Γr:=(fun p64=>⟨[(0, .val (T.int .i64) p64.1)],[(2, .cells [(53, .val Ae x1)]),(5, .cells [(53, .val Ae p64.2)]),EA,(2000004, .ghost (.val (T.sl Ak) x3)),Gf,lM,lL,Tt,Fc,Bo,Bn,Bm,CY,CX,CW,Fb,DO,DN,DM]⟩)) rfl (.nil) 2000000 (fun p64=>⟨[(53, .val (T.int .i64) p64.1),(2, .cp 2 0),(4, .val (T.sl Ak) x3),(5, .cp 5 0),(39, .kv 3400641),MI,GP],[(2, .cells [(53, .val Ae x1)]),(5, .cells [(53, .val Ae p64.2)]),Fc,Bo,Bn,Bm,CY,CX,CW,Fb,DO,DN,DM]⟩) (fun _=> .nil) Sb rfl rfl rfl (CG (Bh rfl rfl) rfl) (.cons (IX (Ag rfl))<| .cons (IX (Ag rfl))<| .nil) sB rfl (Af<|Ad (Aq AK)<|Ah<|Ab rfl<|Ab rfl<|Aa.op (Cd Mg (.one (Ag rfl))) fun x65=>Ab rfl<|An (Bs (Ag rfl) rfl) fun x66=>An (Bs (Ag rfl) rfl) fun x67=>Ad (Bv (Ag rfl))<|Ad (A6 (Ag rfl))<|Ai (Bj (Ag rfl) (Ag rfl) rfl rfl BB rfl) fun x68=>Ab rfl<|Ah<|Ab rfl<|Ab rfl<|Ac<|Ay (x67,x68) (.cons (CU rfl)<| .nil) sB) (fun p64=>Au sB rfl (.one rfl) trivial sB) fun p64=>
 Ap rfl (Aq (Ag rfl))<|Cc<|Ah<|Ab rfl<|Aj (Aw rfl (Ag rfl) AK) fun x69=>Ac<|Aa.cond (Ag rfl) (Af<|Aj (CZ rfl rfl (.nil _)) fun x70=>Ab rfl<|Ai (Bj (Ag rfl) (Ag rfl) rfl rfl (At _) rfl) fun x71=>Ab rfl<|Ac<|Aa.ret (.cons (Cs rfl rfl rfl (At _) rfl rfl)<| .one (A8 rfl))) (Aa.skip<|AB<|Ac<|Ad (Br (t:=T.int .i64) (y:=(1:Int)) (Bf (I:=(IT.int .i64)) (Ag rfl) AK) rfl)<|Ab rfl<|Ac<|AP (Γ':=⟨[(2, .cp 2 0),(4, .val (T.sl Ak) x3),(5, .cp 5 0),(39, .kv 3400641),MI,KY],[(2, .cells [(53, .val Ae x1)]),(5, .cells [(53, .val Ae p64.2)]),Fc,Bo,Bn,Bm,CY,CX,CW,Fb,DO,DN,DM]⟩) sB rfl<|Af<|Ad (Br (t:=T.b) (y:=true) (Aw rfl (Ag rfl) (Ag rfl)) rfl)<|Ah<|B7 (Ag rfl)<|Aa.skip<|Ah<|A4<|Af<|Ab rfl<|Ad (DK (i:=1) (Bh rfl rfl) rfl rfl (Ag rfl) rfl (by decide))<|Ad (Fw (Ag rfl) rfl rfl rfl)<|Ai (AA 9 _ De rfl rfl) fun _=>Ab rfl<|Ai (AT (Ag rfl) (Ag rfl) rfl rfl rfl rfl) fun _=>Ah<|Aa.regd 1<|Ap rfl (A6 (Ag rfl))<|Ap rfl (Bp (Ag rfl) rfl rfl rfl)<|Ap rfl (Aq (Ag rfl))<|Ap rfl (Aq (Ag rfl))<|Ap rfl (Br (t:=T.int .i64) (y:=(2:Int)) (Bf (I:=(IT.int .i64)) (Ag rfl) AK) rfl)<|A0.op rfl (HH rfl (Ag rfl) (Ag rfl)) fun x72=>Dx rfl (KU rfl rfl (Ag rfl)) fun x73=>A0.inl (τ:=(Int×Ao)) (φs:=[.cp 5 0, .val Ak x73]) (n:=1) (L:=[(2, .cp 2 0),(4, .val (T.sl Ak) x3),(5, .cp 5 0),(39, .kv 3400641),MI,KY]) (Γr:=(fun p74=>⟨[(0, .val (T.int .i64) p74.1)],[(2, .cells [(53, .val Ae x1)]),(5, .cells [(53, .val Ae p74.2)]),EA,(2000004, .ghost (.val (T.sl Ak) x3)),Gf,lM,lL,lK,Fc,Bo,Bn,Bm,CY,CX,CW,Fb,DO,DN,DM]⟩)) rfl (.nil) 2000000 (fun p74=>⟨[(53, .val (T.int .i64) p74.1),(2, .cp 2 0),(4, .val (T.sl Ak) x3),(5, .cp 5 0),(39, .kv 3400641),MI,KY],[(2, .cells [(53, .val Ae x1)]),(5, .cells [(53, .val Ae p74.2)]),Fc,Bo,Bn,Bm,CY,CX,CW,Fb,DO,DN,DM]⟩) (fun _=> .nil) Q7 rfl rfl rfl (CG (Bh rfl rfl) rfl) (.cons (IX (Ag rfl))<| .cons (IX (Ag rfl))<| .nil) sB rfl (
 Af<|Ad (Aq AK)<|Ah<|Ab rfl<|Ab rfl<|Aa.op (Cd MV (.one (Ag rfl))) fun x75=>Ab rfl<|An (Bs (Ag rfl) rfl) fun x76=>An (Bs (Ag rfl) rfl) fun x77=>Ad (Bv (Ag rfl))<|Ad (A6 (Ag rfl))<|Ai (Bj (Ag rfl) (Ag rfl) rfl rfl Cf rfl) fun x78=>Ab rfl<|Ah<|Ab rfl<|Ab rfl<|Ac<|Ay (x77,x78) (.cons (CU rfl)<| .nil) sB) (fun p74=>Au sB rfl (.one rfl) trivial sB) fun p74=>Ap rfl (Aq (Ag rfl))<|Cc<|Ah<|Ab rfl<|Aj (Aw rfl (Ag rfl) AK) fun x79=>Ac<|Aa.cond (Ag rfl) (Af<|Aj (CZ rfl rfl (.nil _)) fun x80=>Ab rfl<|Ai (Bj (Ag rfl) (Ag rfl) rfl rfl (At _) rfl) fun x81=>Ab rfl<|Ac<|Aa.ret (.cons (Cs rfl rfl rfl (At _) rfl rfl)<| .one (A8 rfl))) (Aa.skip<|AB<|Ac<|Ad (Br (t:=T.int .i64) (y:=(2:Int)) (Bf (I:=(IT.int .i64)) (Ag rfl) AK) rfl)<|Ab rfl<|Ac<|AP (Γ':=⟨[(2, .cp 2 0),(4, .val (T.sl Ak) x3),(5, .cp 5 0),(39, .kv 3400641),MI,WW],[(2, .cells [(53, .val Ae x1)]),(5, .cells [(53, .val Ae p74.2)]),Fc,Bo,Bn,Bm,CY,CX,CW,Fb,DO,DN,DM]⟩) sB rfl<|Af<|Ad (Br (t:=T.b) (y:=true) (Aw rfl (Ag rfl) (Ag rfl)) rfl)<|Ah<|B7 (Ag rfl)<|Aa.skip<|Ah<|A4<|Af<|Ab rfl<|Ad (DK (i:=2) (Bh rfl rfl) rfl rfl (Ag rfl) rfl (by decide))<|Ad (Fw (Ag rfl) rfl rfl rfl)<|Ai (AA 9 _ De rfl rfl) fun _=>Ab rfl<|Ai (AT (Ag rfl) (Ag rfl) rfl rfl rfl rfl) fun _=>Ah<|Aa.regd 1<|Ap rfl (A6 (Ag rfl))<|Ap rfl (Bp (Ag rfl) rfl rfl rfl)<|Ap rfl (Aq (Ag rfl))<|Ap rfl (Aq (Ag rfl))<|Ap rfl (Br (t:=T.int .i64) (y:=(3:Int)) (Bf (I:=(IT.int .i64)) (Ag rfl) AK) rfl)<|A0.op rfl (HH rfl (Ag rfl) (Ag rfl)) fun x82=>Dx rfl (KU rfl rfl (Ag rfl)) fun x83=>A0.inl (τ:=(Int×Ao)) (φs:=[.cp 5 0, .val Ak x83]) (n:=1) (L:=[(2, .cp 2 0),(4, .val (T.sl Ak) x3),(5, .cp 5 0),(39, .kv 3400641),MI,WW]) (Γr:=(fun p84=>⟨[(0, .val (T.int .i64) p84.1)],[(2, .cells [(53, .val Ae x1)]),(5, .cells [(53, .val Ae p84.2)]),EA,(2000004, .ghost (.val (T.sl Ak) x3)),Gf,lM,lL,(2000041, .ghost (.val (T.int .i64) (2:Int))),Fc,Bo,Bn,Bm,CY,CX,CW,Fb,DO,DN,DM]⟩)) rfl (.nil) 2000000 (fun p84=>⟨[(53, .val (T.int .i64) p84.1),(2, .cp 2 0),(4, .val (T.sl Ak) x3),(5, .cp 5 0),(39, .kv 3400641),MI,WW],[(2, .cells [(53, .val Ae x1)]),(5, .cells [(53, .val Ae p84.2)]),Fc,Bo,Bn,Bm,CY,CX,CW,Fb,DO,DN,DM]⟩) (fun _=> .nil) HO rfl rfl rfl (CG (Bh rfl rfl) rfl) (.cons (IX (Ag rfl))<| .cons (IX (Ag rfl))<| .nil) sB rfl (
 Af<|Ad (Aq AK)<|Ah<|Ab rfl<|Ab rfl<|Aa.op (Cd GX (.one (Ag rfl))) fun x85=>Ab rfl<|An (Bs (Ag rfl) rfl) fun x86=>An (Bs (Ag rfl) rfl) fun x87=>Ad (Bv (Ag rfl))<|Ad (A6 (Ag rfl))<|Ai (Bj (Ag rfl) (Ag rfl) rfl rfl AI rfl) fun x88=>Ab rfl<|Ah<|Ab rfl<|Ab rfl<|Ac<|Ay (x87,x88) (.cons (CU rfl)<| .nil) sB) (fun p84=>Au sB rfl (.one rfl) trivial sB) fun p84=>Ap rfl (Aq (Ag rfl))<|Cc<|Ah<|Ab rfl<|Aj (Aw rfl (Ag rfl) AK) fun x89=>Ac<|Aa.cond (Ag rfl) (Af<|Aj (CZ rfl rfl (.nil _)) fun x90=>Ab rfl<|Ai (Bj (Ag rfl) (Ag rfl) rfl rfl (At _) rfl) fun x91=>Ab rfl<|Ac<|Aa.ret (.cons (Cs rfl rfl rfl (At _) rfl rfl)<| .one (A8 rfl))) (Aa.skip<|AB<|Ac<|Ad (Br (t:=T.int .i64) (y:=(3:Int)) (Bf (I:=(IT.int .i64)) (Ag rfl) AK) rfl)<|Ab rfl<|Ac<|AP (Γ':=⟨[(2, .cp 2 0),(4, .val (T.sl Ak) x3),(5, .cp 5 0),(39, .kv 3400641),MI,(41, .val (T.int .i64) (3:Int))],[(2, .cells [(53, .val Ae x1)]),(5, .cells [(53, .val Ae p84.2)]),Fc,Bo,Bn,Bm,CY,CX,CW,Fb,DO,DN,DM]⟩) sB rfl<|Af<|Ad (Br (t:=T.b) (y:=false) (Aw rfl (Ag rfl) (Ag rfl)) rfl)<|Ah<|C9 (Ag rfl)<|AH<|AH<|Bd<|Ah<|An (AE (t:=Ae) (u:=Ae) (Ag rfl) rfl rfl (At _) rfl rfl) fun x92=>Ai (Bj (Ag rfl) (Ag rfl) rfl rfl (At _) rfl) fun x93=>Ad (Aq AK)<|Ac<|Aa.ret (.cons (Cs rfl rfl rfl (At _) rfl rfl)<| .one (A8 rfl)))))))) (.alt (.one fun p13=>Ab rfl<|Ad (BA (Ag rfl) rfl)<|Ad (BA (Ag rfl) rfl)<|Ai (AA 6 _ Iq rfl rfl) fun _=>Ai (AT (Ag rfl) (Bh rfl rfl) rfl rfl rfl rfl) fun _=>Ad (Aq (Bh rfl rfl))<|Ah<|A4<|Af<|Ab rfl<|Aj (Gs (Ag rfl)) fun x94=>Ab rfl<|Ac<|Aa.cond (Ag rfl) (
 Af<|Aj (CZ rfl rfl (.nil _)) fun x95=>Ai (Bj (Ag rfl) (Ag rfl) rfl rfl (At _) rfl) fun x96=>Ad (Aq AK)<|Ac<|Aa.ret (.cons (Cs rfl rfl rfl (At _) rfl rfl)<| .one (A8 rfl))) (Af<|Ab rfl<|Aj (Gb (Ag rfl)) fun x97=>Aj (FG (I:=(IT.int .i64)) (Ag rfl) AK) fun x98=>Ad (A6 (Ag rfl))<|Ad (Bp (Ag rfl) rfl rfl rfl)<|Ad (ES (n:=2) (Bh rfl rfl) rfl rfl)<|Aj (Aw rfl (Ag rfl) (Ag rfl)) fun x99=>Ab rfl<|Ac<|Aa.cond (Ag rfl) (Af<|Aj (CZ rfl rfl (.nil _)) fun x100=>Ai (Bj (Ag rfl) (Ag rfl) rfl rfl (At _) rfl) fun x101=>Ad (Aq AK)<|Ac<|Aa.ret (.cons (Cs rfl rfl rfl (At _) rfl rfl)<| .one (A8 rfl))) (Aa.skip<|AB<|Ah<|Af<|Ad (A6 (Ag rfl))<|Ad (Bp (Ag rfl) rfl rfl rfl)<|Ad (ES (n:=2) (Bh rfl rfl) rfl rfl)<|Ad (Aq AK)<|Ac<|A4<|AP (Γ':=⟨[(2, .cp 2 0),(4, .val (T.sl Ak) x3),(5, .cp 5 0),(39, .kv 3400881),Jp,GP],[(2, .cells [(53, .val Ae x1)]),(5, .cells [(53, .val Ae x9)]),Hg,DG,DF,DE,BV,BU,BT,Hf]⟩) sB rfl<|Af<|Ad (Br (t:=T.b) (y:=true) (Aw rfl (Ag rfl) (Ag rfl)) rfl)<|Ah<|B7 (Ag rfl)<|Aa.skip<|Ah<|A4<|Af<|Ab rfl<|Ad (DK (i:=0) (Bh rfl rfl) rfl rfl (Ag rfl) rfl (by decide))<|Ad (Fw (Ag rfl) rfl rfl rfl)<|Ai (AA 9 _ De rfl rfl) fun _=>Ab rfl<|Ai (AT (Ag rfl) (Ag rfl) rfl rfl rfl rfl) fun _=>Ah<|Aa.regd 1<|Ap rfl (A6 (Ag rfl))<|Ap rfl (Bp (Ag rfl) rfl rfl rfl)<|Ap rfl (Aq (Ag rfl))<|Ap rfl (Aq (Ag rfl))<|Ap rfl (Br (t:=T.int .i64) (y:=(1:Int)) (Bf (I:=(IT.int .i64)) (Ag rfl) AK) rfl)<|A0.op rfl (HH rfl (Ag rfl) (Ag rfl)) fun x102=>Dx rfl (KU rfl rfl (Ag rfl)) fun x103=>A0.inl (τ:=(Int×Ao)) (φs:=[.cp 5 0, .val Ak x103]) (n:=1) (L:=[(2, .cp 2 0),(4, .val (T.sl Ak) x3),(5, .cp 5 0),(39, .kv 3400881),Jp,GP]) (Γr:=(fun p104=>⟨[(0, .val (T.int .i64) p104.1)],[(2, .cells [(53, .val Ae x1)]),(5, .cells [(53, .val Ae p104.2)]),EA,(2000004, .ghost (.val (T.sl Ak) x3)),Gf,(2000039, .ghost (.kv 3400881)),bG,Tt,Hg,DG,DF,DE,BV,BU,BT,Hf]⟩)) rfl (.nil) 2000000 (fun p104=>⟨[(53, .val (T.int .i64) p104.1),(2, .cp 2 0),(4, .val (T.sl Ak) x3),(5, .cp 5 0),(39, .kv 3400881),Jp,GP],[(2, .cells [(53, .val Ae x1)]),(5, .cells [(53, .val Ae p104.2)]),Hg,DG,DF,DE,BV,BU,BT,Hf]⟩) (fun _=> .nil) Q7 rfl rfl rfl (CG (Bh rfl rfl) rfl) (.cons (IX (Ag rfl))<| .cons (IX (Ag rfl))<| .nil) sB rfl (
 Af<|Ad (Aq AK)<|Ah<|Ab rfl<|Ab rfl<|Aa.op (Cd MV (.one (Ag rfl))) fun x105=>Ab rfl<|An (Bs (Ag rfl) rfl) fun x106=>An (Bs (Ag rfl) rfl) fun x107=>Ad (Bv (Ag rfl))<|Ad (A6 (Ag rfl))<|Ai (Bj (Ag rfl) (Ag rfl) rfl rfl Cf rfl) fun x108=>Ab rfl<|Ah<|Ab rfl<|Ab rfl<|Ac<|Ay (x107,x108) (.cons (CU rfl)<| .nil) sB) (fun p104=>Au sB rfl (.one rfl) trivial sB) fun p104=>Ap rfl (Aq (Ag rfl))<|Cc<|Ah<|Ab rfl<|Aj (Aw rfl (Ag rfl) AK) fun x109=>Ac<|Aa.cond (Ag rfl) (Af<|Aj (CZ rfl rfl (.nil _)) fun x110=>Ab rfl<|Ai (Bj (Ag rfl) (Ag rfl) rfl rfl (At _) rfl) fun x111=>Ab rfl<|Ac<|Aa.ret (.cons (Cs rfl rfl rfl (At _) rfl rfl)<| .one (A8 rfl))) (Aa.skip<|AB<|Ac<|Ad (Br (t:=T.int .i64) (y:=(1:Int)) (Bf (I:=(IT.int .i64)) (Ag rfl) AK) rfl)<|Ab rfl<|Ac<|AP (Γ':=⟨[(2, .cp 2 0),(4, .val (T.sl Ak) x3),(5, .cp 5 0),(39, .kv 3400881),Jp,KY],[(2, .cells [(53, .val Ae x1)]),(5, .cells [(53, .val Ae p104.2)]),Hg,DG,DF,DE,BV,BU,BT,Hf]⟩) sB rfl<|Af<|Ad (Br (t:=T.b) (y:=true) (Aw rfl (Ag rfl) (Ag rfl)) rfl)<|Ah<|B7 (Ag rfl)<|Aa.skip<|Ah<|A4<|Af<|Ab rfl<|Ad (DK (i:=1) (Bh rfl rfl) rfl rfl (Ag rfl) rfl (by decide))<|Ad (Fw (Ag rfl) rfl rfl rfl)<|Ai (AA 9 _ De rfl rfl) fun _=>Ab rfl<|Ai (AT (Ag rfl) (Ag rfl) rfl rfl rfl rfl) fun _=>Ah<|Aa.regd 1<|Ap rfl (A6 (Ag rfl))<|Ap rfl (Bp (Ag rfl) rfl rfl rfl)<|Ap rfl (Aq (Ag rfl))<|Ap rfl (Aq (Ag rfl))<|Ap rfl (Br (t:=T.int .i64) (y:=(2:Int)) (Bf (I:=(IT.int .i64)) (Ag rfl) AK) rfl)<|A0.op rfl (HH rfl (Ag rfl) (Ag rfl)) fun x112=>Dx rfl (KU rfl rfl (Ag rfl)) fun x113=>
 A0.inl (τ:=(Int×Ao)) (φs:=[.cp 5 0, .val Ak x113]) (n:=1) (L:=[(2, .cp 2 0),(4, .val (T.sl Ak) x3),(5, .cp 5 0),(39, .kv 3400881),Jp,KY]) (Γr:=(fun p114=>⟨[(0, .val (T.int .i64) p114.1)],[(2, .cells [(53, .val Ae x1)]),(5, .cells [(53, .val Ae p114.2)]),EA,(2000004, .ghost (.val (T.sl Ak) x3)),Gf,(2000039, .ghost (.kv 3400881)),bG,lK,Hg,DG,DF,DE,BV,BU,BT,Hf]⟩)) rfl (.nil) 2000000 (fun p114=>⟨[(53, .val (T.int .i64) p114.1),(2, .cp 2 0),(4, .val (T.sl Ak) x3),(5, .cp 5 0),(39, .kv 3400881),Jp,KY],[(2, .cells [(53, .val Ae x1)]),(5, .cells [(53, .val Ae p114.2)]),Hg,DG,DF,DE,BV,BU,BT,Hf]⟩) (fun _=> .nil) HO rfl rfl rfl (CG (Bh rfl rfl) rfl) (.cons (IX (Ag rfl))<| .cons (IX (Ag rfl))<| .nil) sB rfl (Af<|Ad (Aq AK)<|Ah<|Ab rfl<|Ab rfl<|Aa.op (Cd GX (.one (Ag rfl))) fun x115=>Ab rfl<|An (Bs (Ag rfl) rfl) fun x116=>An (Bs (Ag rfl) rfl) fun x117=>Ad (Bv (Ag rfl))<|Ad (A6 (Ag rfl))<|Ai (Bj (Ag rfl) (Ag rfl) rfl rfl AI rfl) fun x118=>Ab rfl<|Ah<|Ab rfl<|Ab rfl<|Ac<|Ay (x117,x118) (.cons (CU rfl)<| .nil) sB) (fun p114=>Au sB rfl (.one rfl) trivial sB) fun p114=>Ap rfl (Aq (Ag rfl))<|Cc<|Ah<|Ab rfl<|Aj (Aw rfl (Ag rfl) AK) fun x119=>Ac<|Aa.cond (Ag rfl) (Af<|Aj (CZ rfl rfl (.nil _)) fun x120=>Ab rfl<|Ai (Bj (Ag rfl) (Ag rfl) rfl rfl (At _) rfl) fun x121=>Ab rfl<|Ac<|Aa.ret (.cons (Cs rfl rfl rfl (At _) rfl rfl)<| .one (A8 rfl))) (Aa.skip<|AB<|Ac<|Ad (Br (t:=T.int .i64) (y:=(2:Int)) (Bf (I:=(IT.int .i64)) (Ag rfl) AK) rfl)<|Ab rfl<|Ac<|AP (Γ':=⟨[(2, .cp 2 0),(4, .val (T.sl Ak) x3),(5, .cp 5 0),(39, .kv 3400881),Jp,WW],[(2, .cells [(53, .val Ae x1)]),(5, .cells [(53, .val Ae p114.2)]),Hg,DG,DF,DE,BV,BU,BT,Hf]⟩) sB rfl<|
 Af<|Ad (Br (t:=T.b) (y:=false) (Aw rfl (Ag rfl) (Ag rfl)) rfl)<|Ah<|C9 (Ag rfl)<|AH<|AH<|Bd<|Ah<|An (AE (t:=Ae) (u:=Ae) (Ag rfl) rfl rfl (At _) rfl rfl) fun x122=>Ai (Bj (Ag rfl) (Ag rfl) rfl rfl (At _) rfl) fun x123=>Ad (Aq AK)<|Ac<|Aa.ret (.cons (Cs rfl rfl rfl (At _) rfl rfl)<| .one (A8 rfl))))))) (.alt (.one fun p14=>Ab rfl<|Ad (BA (Ag rfl) rfl)<|Ad (BA (Ag rfl) rfl)<|Ai (AA 6 _ Iq rfl rfl) fun _=>Ai (AT (Ag rfl) (Bh rfl rfl) rfl rfl rfl rfl) fun _=>Ad (Aq (Bh rfl rfl))<|Ah<|A4<|Af<|Ab rfl<|Aj (Gs (Ag rfl)) fun x124=>Ab rfl<|Ac<|Aa.cond (Ag rfl) (Af<|Aj (CZ rfl rfl (.nil _)) fun x125=>Ai (Bj (Ag rfl) (Ag rfl) rfl rfl (At _) rfl) fun x126=>Ad (Aq AK)<|Ac<|Aa.ret (.cons (Cs rfl rfl rfl (At _) rfl rfl)<| .one (A8 rfl))) (Af<|Ab rfl<|Aj (Gb (Ag rfl)) fun x127=>Aj (FG (I:=(IT.int .i64)) (Ag rfl) AK) fun x128=>Ad (A6 (Ag rfl))<|Ad (Bp (Ag rfl) rfl rfl rfl)<|Ad (ES (n:=1) (Bh rfl rfl) rfl rfl)<|Aj (Aw rfl (Ag rfl) (Ag rfl)) fun x129=>Ab rfl<|Ac<|Aa.cond (Ag rfl) (Af<|Aj (CZ rfl rfl (.nil _)) fun x130=>Ai (Bj (Ag rfl) (Ag rfl) rfl rfl (At _) rfl) fun x131=>Ad (Aq AK)<|Ac<|Aa.ret (.cons (Cs rfl rfl rfl (At _) rfl rfl)<| .one (A8 rfl))) (Aa.skip<|AB<|Ah<|Af<|Ad (A6 (Ag rfl))<|Ad (Bp (Ag rfl) rfl rfl rfl)<|Ad (ES (n:=1) (Bh rfl rfl) rfl rfl)<|Ad (Aq AK)<|Ac<|A4<|AP (Γ':=⟨[(2, .cp 2 0),(4, .val (T.sl Ak) x3),(5, .cp 5 0),(39, .kv 3401081),KZ,GP],[(2, .cells [(53, .val Ae x1)]),(5, .cells [(53, .val Ae x9)]),JG,CD,CC,CB,JF]⟩) sB rfl<|Af<|Ad (Br (t:=T.b) (y:=true) (Aw rfl (Ag rfl) (Ag rfl)) rfl)<|
 Ah<|B7 (Ag rfl)<|Aa.skip<|Ah<|A4<|Af<|Ab rfl<|Ad (DK (i:=0) (Bh rfl rfl) rfl rfl (Ag rfl) rfl (by decide))<|Ad (Fw (Ag rfl) rfl rfl rfl)<|Ai (AA 9 _ De rfl rfl) fun _=>Ab rfl<|Ai (AT (Ag rfl) (Ag rfl) rfl rfl rfl rfl) fun _=>Ah<|Aa.regd 1<|Ap rfl (A6 (Ag rfl))<|Ap rfl (Bp (Ag rfl) rfl rfl rfl)<|Ap rfl (Aq (Ag rfl))<|Ap rfl (Aq (Ag rfl))<|Ap rfl (Br (t:=T.int .i64) (y:=(1:Int)) (Bf (I:=(IT.int .i64)) (Ag rfl) AK) rfl)<|A0.op rfl (HH rfl (Ag rfl) (Ag rfl)) fun x132=>Dx rfl (KU rfl rfl (Ag rfl)) fun x133=>A0.inl (τ:=(Int×Ao)) (φs:=[.cp 5 0, .val Ak x133]) (n:=1) (L:=[(2, .cp 2 0),(4, .val (T.sl Ak) x3),(5, .cp 5 0),(39, .kv 3401081),KZ,GP]) (Γr:=(fun p134=>⟨[(0, .val (T.int .i64) p134.1)],[(2, .cells [(53, .val Ae x1)]),(5, .cells [(53, .val Ae p134.2)]),EA,(2000004, .ghost (.val (T.sl Ak) x3)),Gf,(2000039, .ghost (.kv 3401081)),lN,Tt,JG,CD,CC,CB,JF]⟩)) rfl (.nil) 2000000 (fun p134=>⟨[(53, .val (T.int .i64) p134.1),(2, .cp 2 0),(4, .val (T.sl Ak) x3),(5, .cp 5 0),(39, .kv 3401081),KZ,GP],[(2, .cells [(53, .val Ae x1)]),(5, .cells [(53, .val Ae p134.2)]),JG,CD,CC,CB,JF]⟩) (fun _=> .nil) HO rfl rfl rfl (CG (Bh rfl rfl) rfl) (.cons (IX (Ag rfl))<| .cons (IX (Ag rfl))<| .nil) sB rfl (Af<|Ad (Aq AK)<|Ah<|Ab rfl<|Ab rfl<|Aa.op (Cd GX (.one (Ag rfl))) fun x135=>Ab rfl<|An (Bs (Ag rfl) rfl) fun x136=>An (Bs (Ag rfl) rfl) fun x137=>Ad (Bv (Ag rfl))<|Ad (A6 (Ag rfl))<|Ai (Bj (Ag rfl) (Ag rfl) rfl rfl AI rfl) fun x138=>Ab rfl<|Ah<|Ab rfl<|Ab rfl<|Ac<|Ay (x137,x138) (.cons (CU rfl)<| .nil) sB) (fun p134=>Au sB rfl (.one rfl) trivial sB) fun p134=>
 Ap rfl (Aq (Ag rfl))<|Cc<|Ah<|Ab rfl<|Aj (Aw rfl (Ag rfl) AK) fun x139=>Ac<|Aa.cond (Ag rfl) (Af<|Aj (CZ rfl rfl (.nil _)) fun x140=>Ab rfl<|Ai (Bj (Ag rfl) (Ag rfl) rfl rfl (At _) rfl) fun x141=>Ab rfl<|Ac<|Aa.ret (.cons (Cs rfl rfl rfl (At _) rfl rfl)<| .one (A8 rfl))) (Aa.skip<|AB<|Ac<|Ad (Br (t:=T.int .i64) (y:=(1:Int)) (Bf (I:=(IT.int .i64)) (Ag rfl) AK) rfl)<|Ab rfl<|Ac<|AP (Γ':=⟨[(2, .cp 2 0),(4, .val (T.sl Ak) x3),(5, .cp 5 0),(39, .kv 3401081),KZ,KY],[(2, .cells [(53, .val Ae x1)]),(5, .cells [(53, .val Ae p134.2)]),JG,CD,CC,CB,JF]⟩) sB rfl<|Af<|Ad (Br (t:=T.b) (y:=false) (Aw rfl (Ag rfl) (Ag rfl)) rfl)<|Ah<|C9 (Ag rfl)<|AH<|AH<|Bd<|Ah<|An (AE (t:=Ae) (u:=Ae) (Ag rfl) rfl rfl (At _) rfl rfl) fun x142=>Ai (Bj (Ag rfl) (Ag rfl) rfl rfl (At _) rfl) fun x143=>Ad (Aq AK)<|Ac<|Aa.ret (.cons (Cs rfl rfl rfl (At _) rfl rfl)<| .one (A8 rfl)))))) (.alt (.one fun p15=>Ab rfl<|Ad (BA (Ag rfl) rfl)<|Ad (BA (Ag rfl) rfl)<|Ai (AA 6 _ Iq rfl rfl) fun _=>Ai (AT (Ag rfl) (Bh rfl rfl) rfl rfl rfl rfl) fun _=>Ad (Aq (Bh rfl rfl))<|Ah<|A4<|Af<|Ab rfl<|Aj (Gs (Ag rfl)) fun x144=>Ab rfl<|Ac<|Aa.cond (Ag rfl) (Af<|Aj (CZ rfl rfl (.nil _)) fun x145=>Ai (Bj (Ag rfl) (Ag rfl) rfl rfl (At _) rfl) fun x146=>Ad (Aq AK)<|Ac<|Aa.ret (.cons (Cs rfl rfl rfl (At _) rfl rfl)<| .one (A8 rfl))) (Af<|Ab rfl<|Aj (Gb (Ag rfl)) fun x147=>Aj (FG (I:=(IT.int .i64)) (Ag rfl) AK) fun x148=>Ad (A6 (Ag rfl))<|Ad (Bp (Ag rfl) rfl rfl rfl)<|Ad (ES (n:=1) (Bh rfl rfl) rfl rfl)<|Aj (Aw rfl (Ag rfl) (Ag rfl)) fun x149=>
 Ab rfl<|Ac<|Aa.cond (Ag rfl) (Af<|Aj (CZ rfl rfl (.nil _)) fun x150=>Ai (Bj (Ag rfl) (Ag rfl) rfl rfl (At _) rfl) fun x151=>Ad (Aq AK)<|Ac<|Aa.ret (.cons (Cs rfl rfl rfl (At _) rfl rfl)<| .one (A8 rfl))) (Aa.skip<|AB<|Ah<|Af<|Ad (A6 (Ag rfl))<|Ad (Bp (Ag rfl) rfl rfl rfl)<|Ad (ES (n:=1) (Bh rfl rfl) rfl rfl)<|Ad (Aq AK)<|Ac<|A4<|AP (Γ':=⟨[(2, .cp 2 0),(4, .val (T.sl Ak) x3),(5, .cp 5 0),(39, .kv 3401281),KZ,GP],[(2, .cells [(53, .val Ae x1)]),(5, .cells [(53, .val Ae x9)]),JE,GB,GA,G9,JD]⟩) sB rfl<|Af<|Ad (Br (t:=T.b) (y:=true) (Aw rfl (Ag rfl) (Ag rfl)) rfl)<|Ah<|B7 (Ag rfl)<|Aa.skip<|Ah<|A4<|Af<|Ab rfl<|Ad (DK (i:=0) (Bh rfl rfl) rfl rfl (Ag rfl) rfl (by decide))<|Ad (Fw (Ag rfl) rfl rfl rfl)<|Ai (AA 9 _ De rfl rfl) fun _=>Ab rfl<|Ai (AT (Ag rfl) (Ag rfl) rfl rfl rfl rfl) fun _=>Ah<|Aa.regd 1<|Ap rfl (A6 (Ag rfl))<|Ap rfl (Bp (Ag rfl) rfl rfl rfl)<|Ap rfl (Aq (Ag rfl))<|Ap rfl (Aq (Ag rfl))<|Ap rfl (Br (t:=T.int .i64) (y:=(1:Int)) (Bf (I:=(IT.int .i64)) (Ag rfl) AK) rfl)<|A0.op rfl (HH rfl (Ag rfl) (Ag rfl)) fun x152=>Dx rfl (KU rfl rfl (Ag rfl)) fun x153=>A0.inl (τ:=(Int×Ao)) (φs:=[.cp 5 0, .val Ak x153]) (n:=1) (L:=[(2, .cp 2 0),(4, .val (T.sl Ak) x3),(5, .cp 5 0),(39, .kv 3401281),KZ,GP]) (Γr:=(fun p154=>⟨[(0, .val (T.int .i64) p154.1)],[(2, .cells [(53, .val Ae x1)]),(5, .cells [(53, .val Ae p154.2)]),EA,(2000004, .ghost (.val (T.sl Ak) x3)),Gf,(2000039, .ghost (.kv 3401281)),lN,Tt,JE,GB,GA,G9,JD]⟩)) rfl (.nil) 2000000 (fun p154=>⟨[(53, .val (T.int .i64) p154.1),(2, .cp 2 0),(4, .val (T.sl Ak) x3),(5, .cp 5 0),(39, .kv 3401281),KZ,GP],[(2, .cells [(53, .val Ae x1)]),(5, .cells [(53, .val Ae p154.2)]),JE,GB,GA,G9,JD]⟩) (fun _=> .nil) Yd rfl rfl rfl (CG (Bh rfl rfl) rfl) (.cons (IX (Ag rfl))<| .cons (IX (Ag rfl))<| .nil) sB rfl (
 Af<|Ad (Aq AK)<|Ah<|Ab rfl<|Aa.op (Cd KO (.cons (Ag rfl)<| .one (EM 20 rfl))) fun x155=>Ab rfl<|An (Bs (Ag rfl) rfl) fun x156=>An (Bs (Ag rfl) rfl) fun x157=>Ab rfl<|Ab rfl<|Ah<|Ab rfl<|Ab rfl<|Aj (EO (I:=IT.u64) (J:=(IT.int .i64)) rfl (Ag rfl)) fun x158=>Ad (Bv (Ag rfl))<|Ad (A6 (Ag rfl))<|Ai (Bj (Ag rfl) (Ag rfl) rfl rfl BN rfl) fun x159=>Ah<|Af<|Ab rfl<|Aj (Aw rfl (Ag rfl) AK) fun x160=>Ab rfl<|Aa.and 6 rfl rfl rfl (AX (Aq (Ag rfl))<|AX (Bv (Ag rfl))<|AX (A6 (Ag rfl))<|BD (AE (t:=Ae) (u:=(T.int .i64)) (Ag rfl) rfl rfl BN rfl rfl) fun x161=>Bt.op (AD Ru (.one (Ag rfl))) fun x162=>B9 (Gs (Ag rfl)) fun x163=>Bt.nil (Ag rfl)) fun x164=>Ac<|Aa.cond (Ag rfl) (Ad (Aq AK)<|Ah<|Ab rfl<|Ab rfl<|Ac<|Ay (6,x159) (.cons (CU rfl)<| .nil) sB) (Aa.skip<|Ah<|Ab rfl<|Ab rfl<|Ac<|Ay (x157,x159) (.cons (CU rfl)<| .nil) sB)) (fun p154=>Au sB rfl (.one rfl) trivial sB) fun p154=>Ap rfl (Aq (Ag rfl))<|Cc<|Ah<|Ab rfl<|Aj (Aw rfl (Ag rfl) AK) fun x165=>Ac<|Aa.cond (Ag rfl) (Af<|Aj (CZ rfl rfl (.nil _)) fun x166=>Ab rfl<|Ai (Bj (Ag rfl) (Ag rfl) rfl rfl (At _) rfl) fun x167=>Ab rfl<|Ac<|Aa.ret (.cons (Cs rfl rfl rfl (At _) rfl rfl)<| .one (A8 rfl))) (Aa.skip<|AB<|Ac<|Ad (Br (t:=T.int .i64) (y:=(1:Int)) (Bf (I:=(IT.int .i64)) (Ag rfl) AK) rfl)<|Ab rfl<|Ac<|AP (Γ':=⟨[(2, .cp 2 0),(4, .val (T.sl Ak) x3),(5, .cp 5 0),(39, .kv 3401281),KZ,KY],[(2, .cells [(53, .val Ae x1)]),(5, .cells [(53, .val Ae p154.2)]),JE,GB,GA,G9,JD]⟩) sB rfl<|Af<|Ad (Br (t:=T.b) (y:=false) (Aw rfl (Ag rfl) (Ag rfl)) rfl)<|Ah<|C9 (Ag rfl)<|
 AH<|AH<|Bd<|Ah<|An (AE (t:=Ae) (u:=Ae) (Ag rfl) rfl rfl (At _) rfl rfl) fun x168=>Ai (Bj (Ag rfl) (Ag rfl) rfl rfl (At _) rfl) fun x169=>Ad (Aq AK)<|Ac<|Aa.ret (.cons (Cs rfl rfl rfl (At _) rfl rfl)<| .one (A8 rfl)))))) (.alt (.one fun p16=>Ab rfl<|Ad (BA (Ag rfl) rfl)<|Ad (BA (Ag rfl) rfl)<|Ai (AA 6 _ Iq rfl rfl) fun _=>Ai (AT (Ag rfl) (Bh rfl rfl) rfl rfl rfl rfl) fun _=>Ad (Aq (Bh rfl rfl))<|Ah<|A4<|Af<|Ab rfl<|Aj (Gs (Ag rfl)) fun x170=>Ab rfl<|Ac<|Aa.cond (Ag rfl) (Af<|Aj (CZ rfl rfl (.nil _)) fun x171=>Ai (Bj (Ag rfl) (Ag rfl) rfl rfl (At _) rfl) fun x172=>Ad (Aq AK)<|Ac<|Aa.ret (.cons (Cs rfl rfl rfl (At _) rfl rfl)<| .one (A8 rfl))) (Af<|Ab rfl<|Aj (Gb (Ag rfl)) fun x173=>Aj (FG (I:=(IT.int .i64)) (Ag rfl) AK) fun x174=>Ad (A6 (Ag rfl))<|Ad (Bp (Ag rfl) rfl rfl rfl)<|Ad (ES (n:=2) (Bh rfl rfl) rfl rfl)<|Aj (Aw rfl (Ag rfl) (Ag rfl)) fun x175=>Ab rfl<|Ac<|Aa.cond (Ag rfl) (Af<|Aj (CZ rfl rfl (.nil _)) fun x176=>Ai (Bj (Ag rfl) (Ag rfl) rfl rfl (At _) rfl) fun x177=>Ad (Aq AK)<|Ac<|Aa.ret (.cons (Cs rfl rfl rfl (At _) rfl rfl)<| .one (A8 rfl))) (Aa.skip<|AB<|Ah<|Af<|Ad (A6 (Ag rfl))<|Ad (Bp (Ag rfl) rfl rfl rfl)<|Ad (ES (n:=2) (Bh rfl rfl) rfl rfl)<|Ad (Aq AK)<|Ac<|A4<|AP (Γ':=⟨[(2, .cp 2 0),(4, .val (T.sl Ak) x3),(5, .cp 5 0),(39, .kv 3401521),Jp,GP],[(2, .cells [(53, .val Ae x1)]),(5, .cells [(53, .val Ae x9)]),He,Bo,Bn,Bm,BV,BU,BT,Hd]⟩) sB rfl<|Af<|Ad (Br (t:=T.b) (y:=true) (Aw rfl (Ag rfl) (Ag rfl)) rfl)<|Ah<|B7 (Ag rfl)<|Aa.skip<|Ah<|A4<|Af<|Ab rfl<|Ad (DK (i:=0) (Bh rfl rfl) rfl rfl (Ag rfl) rfl (by decide))<|
 Ad (Fw (Ag rfl) rfl rfl rfl)<|Ai (AA 9 _ De rfl rfl) fun _=>Ab rfl<|Ai (AT (Ag rfl) (Ag rfl) rfl rfl rfl rfl) fun _=>Ah<|Aa.regd 1<|Ap rfl (A6 (Ag rfl))<|Ap rfl (Bp (Ag rfl) rfl rfl rfl)<|Ap rfl (Aq (Ag rfl))<|Ap rfl (Aq (Ag rfl))<|Ap rfl (Br (t:=T.int .i64) (y:=(1:Int)) (Bf (I:=(IT.int .i64)) (Ag rfl) AK) rfl)<|A0.op rfl (HH rfl (Ag rfl) (Ag rfl)) fun x178=>Dx rfl (KU rfl rfl (Ag rfl)) fun x179=>A0.inl (τ:=(Int×Ao)) (φs:=[.cp 5 0, .val Ak x179]) (n:=1) (L:=[(2, .cp 2 0),(4, .val (T.sl Ak) x3),(5, .cp 5 0),(39, .kv 3401521),Jp,GP]) (Γr:=(fun p180=>⟨[(0, .val (T.int .i64) p180.1)],[(2, .cells [(53, .val Ae x1)]),(5, .cells [(53, .val Ae p180.2)]),EA,(2000004, .ghost (.val (T.sl Ak) x3)),Gf,(2000039, .ghost (.kv 3401521)),bG,Tt,He,Bo,Bn,Bm,BV,BU,BT,Hd]⟩)) rfl (.nil) 2000000 (fun p180=>⟨[(53, .val (T.int .i64) p180.1),(2, .cp 2 0),(4, .val (T.sl Ak) x3),(5, .cp 5 0),(39, .kv 3401521),Jp,GP],[(2, .cells [(53, .val Ae x1)]),(5, .cells [(53, .val Ae p180.2)]),He,Bo,Bn,Bm,BV,BU,BT,Hd]⟩) (fun _=> .nil) Sb rfl rfl rfl (CG (Bh rfl rfl) rfl) (.cons (IX (Ag rfl))<| .cons (IX (Ag rfl))<| .nil) sB rfl (Af<|Ad (Aq AK)<|Ah<|Ab rfl<|Ab rfl<|Aa.op (Cd Mg (.one (Ag rfl))) fun x181=>Ab rfl<|An (Bs (Ag rfl) rfl) fun x182=>An (Bs (Ag rfl) rfl) fun x183=>Ad (Bv (Ag rfl))<|Ad (A6 (Ag rfl))<|Ai (Bj (Ag rfl) (Ag rfl) rfl rfl BB rfl) fun x184=>Ab rfl<|Ah<|Ab rfl<|Ab rfl<|Ac<|Ay (x183,x184) (.cons (CU rfl)<| .nil) sB) (fun p180=>Au sB rfl (.one rfl) trivial sB) fun p180=>Ap rfl (Aq (Ag rfl))<|Cc<|Ah<|Ab rfl<|
 Aj (Aw rfl (Ag rfl) AK) fun x185=>Ac<|Aa.cond (Ag rfl) (Af<|Aj (CZ rfl rfl (.nil _)) fun x186=>Ab rfl<|Ai (Bj (Ag rfl) (Ag rfl) rfl rfl (At _) rfl) fun x187=>Ab rfl<|Ac<|Aa.ret (.cons (Cs rfl rfl rfl (At _) rfl rfl)<| .one (A8 rfl))) (Aa.skip<|AB<|Ac<|Ad (Br (t:=T.int .i64) (y:=(1:Int)) (Bf (I:=(IT.int .i64)) (Ag rfl) AK) rfl)<|Ab rfl<|Ac<|AP (Γ':=⟨[(2, .cp 2 0),(4, .val (T.sl Ak) x3),(5, .cp 5 0),(39, .kv 3401521),Jp,KY],[(2, .cells [(53, .val Ae x1)]),(5, .cells [(53, .val Ae p180.2)]),He,Bo,Bn,Bm,BV,BU,BT,Hd]⟩) sB rfl<|Af<|Ad (Br (t:=T.b) (y:=true) (Aw rfl (Ag rfl) (Ag rfl)) rfl)<|Ah<|B7 (Ag rfl)<|Aa.skip<|Ah<|A4<|Af<|Ab rfl<|Ad (DK (i:=1) (Bh rfl rfl) rfl rfl (Ag rfl) rfl (by decide))<|Ad (Fw (Ag rfl) rfl rfl rfl)<|Ai (AA 9 _ De rfl rfl) fun _=>Ab rfl<|Ai (AT (Ag rfl) (Ag rfl) rfl rfl rfl rfl) fun _=>Ah<|Aa.regd 1<|Ap rfl (A6 (Ag rfl))<|Ap rfl (Bp (Ag rfl) rfl rfl rfl)<|Ap rfl (Aq (Ag rfl))<|Ap rfl (Aq (Ag rfl))<|Ap rfl (Br (t:=T.int .i64) (y:=(2:Int)) (Bf (I:=(IT.int .i64)) (Ag rfl) AK) rfl)<|A0.op rfl (HH rfl (Ag rfl) (Ag rfl)) fun x188=>Dx rfl (KU rfl rfl (Ag rfl)) fun x189=>A0.inl (τ:=(Int×Ao)) (φs:=[.cp 5 0, .val Ak x189]) (n:=1) (L:=[(2, .cp 2 0),(4, .val (T.sl Ak) x3),(5, .cp 5 0),(39, .kv 3401521),Jp,KY]) (Γr:=(fun p190=>⟨[(0, .val (T.int .i64) p190.1)],[(2, .cells [(53, .val Ae x1)]),(5, .cells [(53, .val Ae p190.2)]),EA,(2000004, .ghost (.val (T.sl Ak) x3)),Gf,(2000039, .ghost (.kv 3401521)),bG,lK,He,Bo,Bn,Bm,BV,BU,BT,Hd]⟩)) rfl (.nil) 2000000 (fun p190=>⟨[(53, .val (T.int .i64) p190.1),(2, .cp 2 0),(4, .val (T.sl Ak) x3),(5, .cp 5 0),(39, .kv 3401521),Jp,KY],[(2, .cells [(53, .val Ae x1)]),(5, .cells [(53, .val Ae p190.2)]),He,Bo,Bn,Bm,BV,BU,BT,Hd]⟩) (fun _=> .nil) HO rfl rfl rfl (CG (Bh rfl rfl) rfl) (.cons (IX (Ag rfl))<| .cons (IX (Ag rfl))<| .nil) sB rfl (
 Af<|Ad (Aq AK)<|Ah<|Ab rfl<|Ab rfl<|Aa.op (Cd GX (.one (Ag rfl))) fun x191=>Ab rfl<|An (Bs (Ag rfl) rfl) fun x192=>An (Bs (Ag rfl) rfl) fun x193=>Ad (Bv (Ag rfl))<|Ad (A6 (Ag rfl))<|Ai (Bj (Ag rfl) (Ag rfl) rfl rfl AI rfl) fun x194=>Ab rfl<|Ah<|Ab rfl<|Ab rfl<|Ac<|Ay (x193,x194) (.cons (CU rfl)<| .nil) sB) (fun p190=>Au sB rfl (.one rfl) trivial sB) fun p190=>Ap rfl (Aq (Ag rfl))<|Cc<|Ah<|Ab rfl<|Aj (Aw rfl (Ag rfl) AK) fun x195=>Ac<|Aa.cond (Ag rfl) (Af<|Aj (CZ rfl rfl (.nil _)) fun x196=>Ab rfl<|Ai (Bj (Ag rfl) (Ag rfl) rfl rfl (At _) rfl) fun x197=>Ab rfl<|Ac<|Aa.ret (.cons (Cs rfl rfl rfl (At _) rfl rfl)<| .one (A8 rfl))) (Aa.skip<|AB<|Ac<|Ad (Br (t:=T.int .i64) (y:=(2:Int)) (Bf (I:=(IT.int .i64)) (Ag rfl) AK) rfl)<|Ab rfl<|Ac<|AP (Γ':=⟨[(2, .cp 2 0),(4, .val (T.sl Ak) x3),(5, .cp 5 0),(39, .kv 3401521),Jp,WW],[(2, .cells [(53, .val Ae x1)]),(5, .cells [(53, .val Ae p190.2)]),He,Bo,Bn,Bm,BV,BU,BT,Hd]⟩) sB rfl<|Af<|Ad (Br (t:=T.b) (y:=false) (Aw rfl (Ag rfl) (Ag rfl)) rfl)<|Ah<|C9 (Ag rfl)<|AH<|AH<|Bd<|Ah<|An (AE (t:=Ae) (u:=Ae) (Ag rfl) rfl rfl (At _) rfl rfl) fun x198=>Ai (Bj (Ag rfl) (Ag rfl) rfl rfl (At _) rfl) fun x199=>Ad (Aq AK)<|Ac<|Aa.ret (.cons (Cs rfl rfl rfl (At _) rfl rfl)<| .one (A8 rfl))))))) (.one fun p17=>Ab rfl<|Ad (BA (Ag rfl) rfl)<|Ad (BA (Ag rfl) rfl)<|Ai (AA 6 _ Iq rfl rfl) fun _=>Ai (AT (Ag rfl) (Bh rfl rfl) rfl rfl rfl rfl) fun _=>Ad (Aq (Bh rfl rfl))<|Ah<|A4<|Af<|Ab rfl<|Aj (Gs (Ag rfl)) fun x200=>Ab rfl<|Ac<|Aa.cond (Ag rfl) (Af<|Aj (CZ rfl rfl (.nil _)) fun x201=>
 Ai (Bj (Ag rfl) (Ag rfl) rfl rfl (At _) rfl) fun x202=>Ad (Aq AK)<|Ac<|Aa.ret (.cons (Cs rfl rfl rfl (At _) rfl rfl)<| .one (A8 rfl))) (Af<|Ab rfl<|Aj (Gb (Ag rfl)) fun x203=>Aj (FG (I:=(IT.int .i64)) (Ag rfl) AK) fun x204=>Ad (A6 (Ag rfl))<|Ad (Bp (Ag rfl) rfl rfl rfl)<|Ad (aP (Bh rfl rfl))<|Aj (Aw rfl (Ag rfl) (Ag rfl)) fun x205=>Ab rfl<|Ac<|Aa.cond (Ag rfl) (Af<|Aj (CZ rfl rfl (.nil _)) fun x206=>Ai (Bj (Ag rfl) (Ag rfl) rfl rfl (At _) rfl) fun x207=>Ad (Aq AK)<|Ac<|Aa.ret (.cons (Cs rfl rfl rfl (At _) rfl rfl)<| .one (A8 rfl))) (Aa.skip<|AB<|Ah<|Af<|Ad (A6 (Ag rfl))<|Ad (Bp (Ag rfl) rfl rfl rfl)<|Ad (aP (Bh rfl rfl))<|Ad (Aq AK)<|Ac<|A4<|AP (Γ':=⟨[(2, .cp 2 0),(4, .val (T.sl Ak) x3),(5, .cp 5 0),(39, .kv 3401561),(40, .val (T.int .i64) (0:Int)),GP],[(2, .cells [(53, .val Ae x1)]),(5, .cells [(53, .val Ae x9)]),Pt]⟩) sB rfl<|Af<|Ad (Br (t:=T.b) (y:=false) (Aw rfl (Ag rfl) (Ag rfl)) rfl)<|Ah<|C9 (Ag rfl)<|AH<|AH<|Bd<|Ah<|An (AE (t:=Ae) (u:=Ae) (Ag rfl) rfl rfl (At _) rfl rfl) fun x208=>Ai (Bj (Ag rfl) (Ag rfl) rfl rfl (At _) rfl) fun x209=>Ad (Aq AK)<|Ac<|Aa.ret (.cons (Cs rfl rfl rfl (At _) rfl rfl)<| .one (A8 rfl)))))))))))
theorem Vz:Spec tb Gu [Ak] [Ae,(T.int .i64)] (fun a=>C6 a):=
 Spec.of Yh rfl rfl rfl U5
noncomputable def PA(a0:(Ar UInt8 32)):Option (GS UInt8):=(iter (fun(s1:(Int×(GS UInt8)))=>if(decide (s1.1<32))=true then (Dl 32 s1.1).bind fun x4=>(a0.l[x4]?).bind fun x5=>(Sx 1 s1.2 [x5]).bind fun x7=>some (.inl (IntKind.i64.wrap (s1.1+1),x7)) else some (.inr (.inl s1.2))) (0, .nil)).bind (Sum.elim (fun(p2:(GS UInt8))=>some p2) some)
noncomputable def X7(a:CF [(T.arr 32 T.u8)]):Cz tb M0 [(T.arr 32 T.u8)] [(T.sl T.u8)] a:=Af<|Ai (Eo (t:=(T.arr 32 T.u8)) 1 rfl rfl (Ag rfl)) fun _=>Ad (Aq (HD (t:=T.u8)))<|Aa.turn (born (n:=2) (j:=1002) rfl rfl)<|Ah<|Ad (Aq (HD (t:=T.u8)))<|Aa.turn (born (n:=3) (j:=2002) rfl rfl)<|Ah<|Af<|Ad (Aq AK)<|Ac<|A4<|Aa.loop (id:=0) (σ:=(Int×(GS UInt8))) (τ:=(GS UInt8)) (fun s1=>⟨[(1, .cp 1 0),(3, .own 2002),(4, .val (T.int .i64) s1.1)],[(1, .cells [(32, .val (T.arr 32 T.u8) a)]),(2002, .row T.u8 s1.2)]⟩) (fun p2=>⟨[(3, .own 2002)],[(2002, .row T.u8 p2)]⟩) (0, .nil) sB (fun _=>rfl) (fun s1=>Af<|Af<|Ab rfl<|Aj (Aw rfl (Ag rfl) AK) fun x3=>Ac<|Aa.cond (Ag rfl) (Aa.skip<|Ah<|A4<|Ab rfl<|Ab rfl<|Aa.op (DS (Ag rfl) (Ag rfl)) fun x4=>Aa.op (JB (At _) rfl rfl (Ag rfl) rfl rfl) fun x5=>Aj (Mq (t:=T.u8) (n:=1) rfl rfl (.cons rfl (Ag rfl)<| .nil _)) fun x6=>CS (M9 rfl (Ag rfl) rfl (RH (Ag rfl))) fun x7=>Ab rfl<|AB<|Ac<|Ab rfl<|Aj (Bf (I:=(IT.int .i64)) (Ag rfl) AK) fun x8=>Ab rfl<|Aa.next (x8,x7) sB) (AH<|DI s1.2 sB)) (fun p2=>Bd<|Ah<|Ab rfl<|Ab rfl<|Ac<|Aa.frzRow 2002 rfl rfl<|Aa.ret (.one (A8 rfl)))
theorem Z2:Spec tb Ib [(T.arr 32 T.u8)] [(T.sl T.u8)] (fun a=>PA a):=
 Spec.of gD rfl rfl rfl X7
noncomputable def Lz(a0:Int):Option AR:=(Nv [48,49,50,51,52,53,54,55,56,57,97,98,99,100,101,102] (some a0) (some (IntKind.i64.wrap (a0+1)))).bind fun x2=>some x2
noncomputable def X8(a:CF [(T.int .i64)]):Cz tb M1 [(T.int .i64)] [Ak] a:=Af<|Ad (Aq Df)<|Ah<|Ab rfl<|Ab rfl<|Aj (Bf (I:=(IT.int .i64)) (Ag rfl) AK) fun x1=>Aa.op (Pi Df (.some (Ag rfl)) (.some (Ag rfl))) fun x2=>Ab rfl<|Ac<|Aa.ret (.one (A8 rfl))
theorem Ld:Spec tb ET [(T.int .i64)] [Ak] (fun a=>Lz a):=
 Spec.of gE rfl rfl rfl X8
noncomputable def JP(a0:(GS UInt8)):Option AR:=(iter (fun(s1:(AR×Int))=>if(decide (s1.2<(a0.l.length:Int)))=true then (Hb a0.l s1.2).bind fun x5=>(if 16=0 then none else some (IntKind.i64.wrap (Int.tdiv (IntKind.i64.wrap (x5.toNat:Int)) 16))).bind fun x8=>(Lz x8).bind fun x9=>(if s1.1.length+x9.length≤2*B4 then some (s1.1++x9)else none).bind fun x10=>(Hb a0.l s1.2).bind fun x11=>(if 16=0 then none else some (Int.tmod (IntKind.i64.wrap (x11.toNat:Int)) 16)).bind fun x14=>(Lz x14).bind fun x15=>(if x10.length+x15.length≤2*B4 then some (x10++x15)else none).bind fun x16=>some (.inl (x16,IntKind.i64.wrap (s1.2+1))) else some (.inr (.inl s1.1))) ([],0)).bind (Sum.elim (fun(p2:AR)=>some p2) some)
noncomputable def VB(a:CF [(T.sl T.u8)]):Cz tb Lr [(T.sl T.u8)] [Ak] a:=Af<|Ad (Aq Df)<|Ah<|Ad (Aq Df)<|Ah<|Af<|Ad (Aq AK)<|Ac<|A4<|Aa.loop (id:=0) (σ:=(AR×Int)) (τ:=AR) (fun s1=>⟨[(0, .val (T.sl T.u8) a),(3, .val Ak s1.1),(4, .val (T.int .i64) s1.2)],[]⟩) (fun p2=>⟨[(3, .val Ak p2)],[]⟩) ([],0) sB (fun _=>rfl) (fun s1=>Af<|Af<|Ab rfl<|Ab rfl<|Aj (Gb (Ag rfl)) fun x3=>Aj (Aw rfl (Ag rfl) (Ag rfl)) fun x4=>Ac<|Aa.cond (Ag rfl) (Aa.skip<|Ah<|A4<|Ab rfl<|Ab rfl<|Ab rfl<|Aa.op (HH rfl (Ag rfl) (Ag rfl)) fun x5=>An (KU rfl rfl (Ag rfl)) fun x6=>Aj (EO (I:=IT.u8) (J:=(IT.int .i64)) rfl (Ag rfl)) fun x7=>Aa.op (Pm (I:=(IT.int .i64)) (Ag rfl) AK) fun x8=>Aa.op (AD Ld (.one (Ag rfl))) fun x9=>Aa.op (CJ (Ag rfl) (Ag rfl)) fun x10=>Ab rfl<|Ab rfl<|Aa.op (HH rfl (Ag rfl) (Ag rfl)) fun x11=>An (KU rfl rfl (Ag rfl)) fun x12=>Aj (EO (I:=IT.u8) (J:=(IT.int .i64)) rfl (Ag rfl)) fun x13=>Aa.op (vI (Ag rfl) AK) fun x14=>Aa.op (AD Ld (.one (Ag rfl))) fun x15=>Aa.op (CJ (Ag rfl) (Ag rfl)) fun x16=>Ab rfl<|AB<|Ac<|Ab rfl<|Aj (Bf (I:=(IT.int .i64)) (Ag rfl) AK) fun x17=>Ab rfl<|Aa.next (x16,x17) sB) (AH<|DI s1.1 sB)) (fun p2=>Bd<|Ah<|Ab rfl<|Ab rfl<|Ac<|Aa.ret (.one (A8 rfl)))
theorem Qu:Spec tb FX [(T.sl T.u8)] [Ak] (fun a=>JP a):=
 Spec.of aZ rfl rfl rfl VB
noncomputable def K5(a0:(GS UInt8)):Option AR:=if(decide ((a0.l.length:Int)=0))=true then some [45] else (JP a0).bind fun x3=>some x3
noncomputable def Z6(a:CF [(T.sl T.u8)]):Cz tb NX [(T.sl T.u8)] [Ak] a:=Af<|Ad (Aq Df)<|Ah<|Af<|Ab rfl<|Aj (Gb (Ag rfl)) fun x1=>Aj (Aw rfl (Ag rfl) AK) fun x2=>Ac<|Aa.cond (Ag rfl) (Af<|Ad (Aq Df)<|Ac<|Aa.ret (.one (A8 rfl))) (Aa.skip<|Ah<|Ab rfl<|Aa.op (AD Qu (.one (Ag rfl))) fun x3=>Ab rfl<|Ac<|Aa.ret (.one (A8 rfl)))
theorem Ky:Spec tb EY [(T.sl T.u8)] [Ak] (fun a=>K5 a):=
 Spec.of kW rfl rfl rfl Z6
noncomputable def Er:Nat→UInt64→Option AR |0,_=>none |n+1,a0=>(if((10:UInt64).toNat:Int)=0 then none else some (IT.u64.ofI (Int.tmod (a0.toNat:Int) ((10:UInt64).toNat:Int)))).bind fun x1=>let x2:=IT.u64.ofI (((48:UInt64).toNat:Int)+(x1.toNat:Int));let x6:=decide ((a0.toNat:Int)<((10:UInt64).toNat:Int));if x6=true then some ([IT.u8.ofI (x2.toNat:Int)]:AR) else (if((10:UInt64).toNat:Int)=0 then none else some (IT.u64.ofI (Int.tdiv (a0.toNat:Int) ((10:UInt64).toNat:Int)))).bind fun x7=>(Er n x7).bind fun x8=>(if x8.length+([IT.u8.ofI (x2.toNat:Int)]:AR).length≤2*B4 then some (x8++([IT.u8.ofI (x2.toNat:Int)]:AR))else none).bind fun x9=>some x9
noncomputable def ZD(n:Nat)(ih:Spec tb Ef [T.u64] [Ak] (fun a=>Er n a))(a:CF [T.u64]):Cz tb Of [T.u64] [Ak] a:=Af<|Ad (Aq Df)<|Ah<|Ab rfl<|Aa.op (Pk (I:=NT.u64) (Ag rfl) (EM 10 rfl)) fun x1=>Aj (Bf (I:=IT.u64) (EM 48 rfl) (Ag rfl)) fun x2=>Aj (EO (I:=IT.u64) (J:=IT.u8) rfl (Ag rfl)) fun x3=>Ai (Ux (t:=T.u8) (n:=1) 1008 rfl rfl (.cons rfl (Ag rfl)<| .nil _) rfl) fun x4=>Aj (h_cvsO (Ag rfl) rfl) fun x5=>Ab rfl<|Ah<|Af<|Ab rfl<|Aj (JC (I:=IT.u64) rfl (Ag rfl) (EM 10 rfl)) fun x6=>Ac<|Aa.cond (Ag rfl) (Af<|Ab rfl<|Ab rfl<|Ac<|Aa.ret (.one (A8 rfl))) (Aa.skip<|Ah<|Ab rfl<|Aa.op (Pm (I:=IT.u64) (Ag rfl) (EM 10 rfl)) fun x7=>Aa.op (AD ih (.one (Ag rfl))) fun x8=>Ab rfl<|Aa.op (CJ (Ag rfl) (Ag rfl)) fun x9=>Ab rfl<|Ac<|Aa.ret (.one (A8 rfl)))
theorem Qv: ∀n,Spec tb Ef [T.u64] [Ak] (fun a=>Er n a)
 |0=>Xp |n+1=>Spec.of lD rfl rfl rfl (ZD n (Qv n))
noncomputable def Jb(a0:UInt64):Option AR:=YS fun n=>Er n a0
theorem Mf:Spec tb Ef [T.u64] [Ak] (fun a=>Jb a):=Zo Qv
noncomputable def N6(a0:(Ar UInt8 16)):Option (Ar Int 8):=(iter (fun(s3:(Int×(Ar Int 8)))=>if(decide (s3.1<8))=true then (Dl 16 (IntKind.i64.wrap (2*s3.1))).bind fun x7=>(a0.l[x7]?).bind fun x8=>let x10:=IntKind.i64.wrap (256*IntKind.i64.wrap (x8.toNat:Int));let x12:=IntKind.i64.wrap (IntKind.i64.wrap (2*s3.1)+1);(Dl 16 x12).bind fun x13=>(a0.l[x13]?).bind fun x14=>let x16:=IntKind.i64.wrap (x10+IntKind.i64.wrap (x14.toNat:Int));(Dl 8 s3.1).bind fun x17=>(if x17<8 then some (s3.2.set x17 x16)else none).bind fun x18=>some (.inl (IntKind.i64.wrap (s3.1+1),x18)) else some (.inr (.inl s3.2))) (0,(T.arr 8 (T.int .i64)).z)).bind (Sum.elim (fun(p4:(Ar Int 8))=>some p4) some)
noncomputable def VA(a:CF [(T.arr 16 T.u8)]):Cz tb Lq [(T.arr 16 T.u8)] [(T.arr 8 (T.int .i64))] a:=Af<|Ai (Eo (t:=(T.arr 16 T.u8)) 1 rfl rfl (Ag rfl)) fun _=>Ai (CH (t:=(T.arr 8 (T.int .i64))) 2 rfl rfl) fun x1=>Ah<|Ai (CH (t:=(T.arr 8 (T.int .i64))) 3 rfl rfl) fun x2=>Ah<|Af<|Ad (Aq AK)<|Ac<|A4<|Aa.loop (id:=0) (σ:=(Int×(Ar Int 8))) (τ:=(Ar Int 8)) (fun s3=>⟨[(1, .cp 1 0),(2, .cp 2 0),(3, .cp 3 0),(4, .val (T.int .i64) s3.1)],[(1, .cells [(16, .val (T.arr 16 T.u8) a)]),(2, .cells [(8, .val (T.arr 8 (T.int .i64)) x1)]),(3, .cells [(8, .val (T.arr 8 (T.int .i64)) s3.2)])]⟩) (fun p4=>⟨[(2, .cp 2 0),(3, .cp 3 0)],[(2, .cells [(8, .val (T.arr 8 (T.int .i64)) x1)]),(3, .cells [(8, .val (T.arr 8 (T.int .i64)) p4)])]⟩) (0,x2) sB (fun _=>rfl) (fun s3=>Af<|Af<|Ab rfl<|Aj (Aw rfl (Ag rfl) AK) fun x5=>Ac<|Aa.cond (Ag rfl) (Aa.skip<|Ah<|A4<|Aa.regd 1<|Ap rfl (Aq (Ag rfl))<|Ap rfl (Aq (Ag rfl))<|Cj rfl (JA (I:=(IT.int .i64)) AK (Ag rfl)) fun x6=>A0.op rfl (DS (Ag rfl) (Ag rfl)) fun x7=>A0.op rfl (JB (At _) rfl rfl (Ag rfl) rfl rfl) fun x8=>Cj rfl (EO (I:=IT.u8) (J:=(IT.int .i64)) rfl (Ag rfl)) fun x9=>Cj rfl (JA (I:=(IT.int .i64)) AK (Ag rfl)) fun x10=>Ap rfl (Aq (Ag rfl))<|Cj rfl (JA (I:=(IT.int .i64)) AK (Ag rfl)) fun x11=>Cj rfl (Bf (I:=(IT.int .i64)) (Ag rfl) AK) fun x12=>A0.op rfl (DS (Ag rfl) (Ag rfl)) fun x13=>A0.op rfl (JB (At _) rfl rfl (Ag rfl) rfl rfl) fun x14=>Cj rfl (EO (I:=IT.u8) (J:=(IT.int .i64)) rfl (Ag rfl)) fun x15=>Cj rfl (Bf (I:=(IT.int .i64)) (Ag rfl) (Ag rfl)) fun x16=>
 A0.op rfl (DS (Ag rfl) (Ag rfl)) fun x17=>CE rfl (fun _=> .nil) (.nil) (GD (s:=(T.arr 8 (T.int .i64))) (At _) rfl (Ag rfl) (Ag rfl) rfl rfl) fun x18=>Cc<|AB<|Ac<|Ab rfl<|Aj (Bf (I:=(IT.int .i64)) (Ag rfl) AK) fun x19=>Ab rfl<|Aa.next (x19,x18) sB) (AH<|DI s3.2 sB)) (fun p4=>Bd<|Ah<|An (AE (t:=(T.arr 8 (T.int .i64))) (u:=(T.arr 8 (T.int .i64))) (Ag rfl) rfl rfl (At _) rfl rfl) fun x20=>Ai (Bj (Ag rfl) (Ag rfl) rfl rfl (At _) rfl) fun x21=>Ac<|Aa.ret (.one (Cs rfl rfl rfl (At _) rfl rfl)))
theorem Xz:Spec tb Hn [(T.arr 16 T.u8)] [(T.arr 8 (T.int .i64))] (fun a=>N6 a):=
 Spec.of aY rfl rfl rfl VA
noncomputable def RA(a0:(Ar Int 8))(a1:Int):Option Int:=(iter (fun(s1:Int)=>(Cy (decide (IntKind.i64.wrap (a1+s1)<8)) ((Dl 8 (IntKind.i64.wrap (a1+s1))).bind fun x6=>(a0.l[x6]?).bind fun x7=>some (decide (x7=0)))).bind fun x9=>if x9=true then some (.inl (IntKind.i64.wrap (s1+1))) else some (.inr (.inl s1))) 0).bind (Sum.elim (fun(p2:Int)=>some p2) some)
noncomputable def dC(a:CF [(T.arr 8 (T.int .i64)),(T.int .i64)]):Cz tb PT [(T.arr 8 (T.int .i64)),(T.int .i64)] [(T.int .i64)] a:=Af<|Ai (Eo (t:=(T.arr 8 (T.int .i64))) 2 rfl rfl (Ag rfl)) fun _=>Ad (Aq AK)<|Ah<|Ad (Aq AK)<|Ah<|A4<|Aa.loop (id:=0) (σ:=Int) (τ:=Int) (fun s1=>⟨[(1, .val (T.int .i64) a.2),(2, .cp 2 0),(5, .val (T.int .i64) s1)],[(2, .cells [(8, .val (T.arr 8 (T.int .i64)) a.1)])]⟩) (fun p2=>⟨[(5, .val (T.int .i64) p2)],[]⟩) 0 sB (fun _=>rfl) (fun s1=>Af<|Af<|Ab rfl<|Ab rfl<|Aj (Bf (I:=(IT.int .i64)) (Ag rfl) (Ag rfl)) fun x3=>Aj (Aw rfl (Ag rfl) AK) fun x4=>Ab rfl<|Aa.and 6 rfl rfl rfl (AX (Aq (Ag rfl))<|AX (Aq (Ag rfl))<|B9 (Bf (I:=(IT.int .i64)) (Ag rfl) (Ag rfl)) fun x5=>Bt.op (DS (Ag rfl) (Ag rfl)) fun x6=>Bt.op (JB (At _) rfl rfl (Ag rfl) rfl rfl) fun x7=>B9 (Aw rfl (Ag rfl) AK) fun x8=>Bt.nil (Ag rfl)) fun x9=>Ac<|Aa.cond (Ag rfl) (Aa.skip<|Ac<|A4<|Ab rfl<|Aj (Bf (I:=(IT.int .i64)) (Ag rfl) AK) fun x10=>Ab rfl<|AB<|Aa.next x10 sB) (AH<|DI s1 sB)) (fun p2=>Bd<|Ah<|Ab rfl<|Ab rfl<|Ac<|Aa.ret (.one (A8 rfl)))
theorem V1:Spec tb IB [(T.arr 8 (T.int .i64)),(T.int .i64)] [(T.int .i64)] (fun a=>RA a.1 a.2):=
 Spec.of qQ rfl rfl rfl dC
noncomputable def Dp:Nat→Int→Option AR |0,_=>none |n+1,a0=>if(decide (a0<16))=true then (Lz a0).bind fun x2=>some x2 else (if 16=0 then none else some (IntKind.i64.wrap (Int.tdiv a0 16))).bind fun x3=>(Dp n x3).bind fun x4=>(if 16=0 then none else some (Int.tmod a0 16)).bind fun x5=>(Lz x5).bind fun x6=>(if x4.length+x6.length≤2*B4 then some (x4++x6)else none).bind fun x7=>some x7
noncomputable def X9(n:Nat)(ih:Spec tb EU [(T.int .i64)] [Ak] (fun a=>Dp n a))(a:CF [(T.int .i64)]):Cz tb M2 [(T.int .i64)] [Ak] a:=Af<|Ad (Aq Df)<|Ah<|Af<|Ab rfl<|Aj (Aw rfl (Ag rfl) AK) fun x1=>Ac<|Aa.cond (Ag rfl) (Af<|Ab rfl<|Aa.op (AD Ld (.one (Ag rfl))) fun x2=>Ab rfl<|Ac<|Aa.ret (.one (A8 rfl))) (Aa.skip<|Ah<|Ab rfl<|Aa.op (Pm (I:=(IT.int .i64)) (Ag rfl) AK) fun x3=>Aa.op (AD ih (.one (Ag rfl))) fun x4=>Ab rfl<|Aa.op (vI (Ag rfl) AK) fun x5=>Aa.op (AD Ld (.one (Ag rfl))) fun x6=>Aa.op (CJ (Ag rfl) (Ag rfl)) fun x7=>Ab rfl<|Ac<|Aa.ret (.one (A8 rfl)))
theorem ON: ∀n,Spec tb EU [(T.int .i64)] [Ak] (fun a=>Dp n a)
 |0=>Xp |n+1=>Spec.of gF rfl rfl rfl (X9 n (ON n))
noncomputable def PB(a0:Int):Option AR:=YS fun n=>Dp n a0
theorem Z3:Spec tb EU [(T.int .i64)] [Ak] (fun a=>PB a):=Zo ON
noncomputable def P9(a0:(Ar Int 8))(a1:Int)(a2:Int):Option AR:=(iter (fun(s1:(AR×Int))=>if(decide (s1.2<a2))=true then (if(decide (a1<s1.2))=true then (if s1.1.length+[58].length≤2*B4 then some (s1.1++[58])else none).bind fun x12=>some (.inl x12) else some (.inl s1.1):Option (AR⊕_)).bind (Sum.elim (fun(p5:AR)=>(Dl 8 s1.2).bind fun x7=>(a0.l[x7]?).bind fun x8=>(PB x8).bind fun x9=>(if p5.length+x9.length≤2*B4 then some (p5++x9)else none).bind fun x10=>some (.inl (x10,IntKind.i64.wrap (s1.2+1)))) some) else some (.inr (.inl s1.1))) ([],a1)).bind (Sum.elim (fun(p2:AR)=>some p2) some)
noncomputable def dD(a:CF [(T.arr 8 (T.int .i64)),(T.int .i64),(T.int .i64)]):Cz tb PU [(T.arr 8 (T.int .i64)),(T.int .i64),(T.int .i64)] [Ak] a:=Af<|Ai (Eo (t:=(T.arr 8 (T.int .i64))) 3 rfl rfl (Ag rfl)) fun _=>Ad (Aq Df)<|Ah<|Ad (Aq Df)<|Ah<|Af<|Ab rfl<|Ab rfl<|Ac<|A4<|Aa.loop (id:=0) (σ:=(AR×Int)) (τ:=AR) (fun s1=>⟨[(1, .val (T.int .i64) a.2.1),(2, .val (T.int .i64) a.2.2),(3, .cp 3 0),(7, .val Ak s1.1),(8, .val (T.int .i64) s1.2)],[(3, .cells [(8, .val (T.arr 8 (T.int .i64)) a.1)])]⟩) (fun p2=>⟨[(7, .val Ak p2)],[]⟩) ([],a.2.1) sB (fun _=>rfl) (fun s1=>Af<|Af<|Ab rfl<|Ab rfl<|Aj (Aw rfl (Ag rfl) (Ag rfl)) fun x3=>Ac<|Aa.cond (Ag rfl) (Aa.skip<|Ah<|A4<|Af<|Af<|Ab rfl<|Ab rfl<|Aj (Aw rfl (Ag rfl) (Ag rfl)) fun x4=>Ac<|Hs (τ:=AR) (fun p5=>⟨[(1, .val (T.int .i64) a.2.1),(2, .val (T.int .i64) a.2.2),(3, .cp 3 0),(7, .val Ak p5),(8, .val (T.int .i64) s1.2)],[(3, .cells [(8, .val (T.arr 8 (T.int .i64)) a.1)])]⟩) (fun p5=>Ac<|Ab rfl<|Ab rfl<|Aa.op (DS (Ag rfl) (Ag rfl)) fun x7=>Aa.op (JB (At _) rfl rfl (Ag rfl) rfl rfl) fun x8=>Aa.op (AD Z3 (.one (Ag rfl))) fun x9=>Aa.op (CJ (Ag rfl) (Ag rfl)) fun x10=>Ab rfl<|AB<|Ac<|Ab rfl<|Aj (Bf (I:=(IT.int .i64)) (Ag rfl) AK) fun x11=>Ab rfl<|Aa.next (x10,x11) sB)<|Aa.cond (Ag rfl) (Ab rfl<|Aa.op (CJ (Ag rfl) Df) fun x12=>Ab rfl<|Fq x12 sB) (Aa.skip<|Fq s1.1 sB)) (AH<|DI s1.1 sB)) (fun p2=>Bd<|Ah<|Ab rfl<|Ab rfl<|Ac<|Aa.ret (.one (A8 rfl)))
theorem QC:Spec tb HL [(T.arr 8 (T.int .i64)),(T.int .i64),(T.int .i64)] [Ak] (fun a=>P9 a.1 a.2.1 a.2.2):=
 Spec.of qR rfl rfl rfl dD
noncomputable def RB(a0:(Ar UInt8 16)):Option AR:=(N6 a0).bind fun x2=>(iter (fun(s5:(Int×Int×Int))=>if(decide (s5.2.2<8))=true then (RA x2 s5.2.2).bind fun x9=>if(decide (s5.2.1<x9))=true then (RA x2 s5.2.2).bind fun x12=>some (.inl (s5.2.2,x12,IntKind.i64.wrap (s5.2.2+1))) else some (.inl (s5.1,s5.2.1,IntKind.i64.wrap (s5.2.2+1))) else some (.inr (.inl (s5.1,s5.2.1)))) (0,0,0)).bind (Sum.elim (fun(p6:(Int×Int))=>if(decide (p6.2<2))=true then (P9 x2 0 8).bind fun x17=>some x17 else (P9 x2 0 p6.1).bind fun x19=>(if x19.length+[58,58].length≤2*B4 then some (x19++[58,58])else none).bind fun x20=>(P9 x2 (IntKind.i64.wrap (p6.1+p6.2)) 8).bind fun x23=>(if x20.length+x23.length≤2*B4 then some (x20++x23)else none).bind fun x24=>some x24) some)
noncomputable def ZB(a:CF [(T.arr 16 T.u8)]):Cz tb Od [(T.arr 16 T.u8)] [Ak] a:=Af<|Ai (Eo (t:=(T.arr 16 T.u8)) 1 rfl rfl (Ag rfl)) fun _=>Ad (Aq Df)<|Ah<|An (AE (t:=(T.arr 16 T.u8)) (u:=(T.arr 16 T.u8)) (Ag rfl) rfl rfl (At _) rfl rfl) fun x1=>Aa.op (AD Xz (.one (Ag rfl))) fun x2=>Ai (CH (t:=(T.arr 8 (T.int .i64))) 3 rfl rfl) fun x3=>Ai (Bj (Ag rfl) (Ag rfl) rfl rfl (At _) rfl) fun x4=>Ah<|Ad (Aq AK)<|Ah<|Ad (Aq AK)<|Ah<|Af<|Ad (Aq AK)<|Ac<|A4<|Aa.loop (id:=0) (σ:=(Int×Int×Int)) (τ:=(Int×Int)) (fun s5=>⟨[(3, .cp 3 0),(4, .val (T.int .i64) s5.1),(5, .val (T.int .i64) s5.2.1),(6, .val (T.int .i64) s5.2.2)],[(3, .cells [(8, .val (T.arr 8 (T.int .i64)) x4)])]⟩) (fun p6=>⟨[(3, .cp 3 0),(4, .val (T.int .i64) p6.1),(5, .val (T.int .i64) p6.2)],[(3, .cells [(8, .val (T.arr 8 (T.int .i64)) x4)])]⟩) (0,0,0) sB (fun _=>rfl) (fun s5=>Af<|Af<|Ab rfl<|Aj (Aw rfl (Ag rfl) AK) fun x7=>Ac<|Aa.cond (Ag rfl) (Aa.skip<|Ah<|A4<|Af<|An (AE (t:=(T.arr 8 (T.int .i64))) (u:=(T.arr 8 (T.int .i64))) (Ag rfl) rfl rfl (At _) rfl rfl) fun x8=>Ab rfl<|Aa.op (AD V1 (.cons (Ag rfl)<| .one (Ag rfl))) fun x9=>Ab rfl<|Aj (Aw rfl (Ag rfl) (Ag rfl)) fun x10=>Ac<|Aa.cond (Ag rfl) (Af<|Ab rfl<|Ab rfl<|Ac<|An (AE (t:=(T.arr 8 (T.int .i64))) (u:=(T.arr 8 (T.int .i64))) (Ag rfl) rfl rfl (At _) rfl rfl) fun x11=>Ab rfl<|Aa.op (AD V1 (.cons (Ag rfl)<| .one (Ag rfl))) fun x12=>Ab rfl<|AB<|Ac<|Ab rfl<|Aj (Bf (I:=(IT.int .i64)) (Ag rfl) AK) fun x13=>Ab rfl<|Aa.next (s5.2.2,x12,x13) sB) (Aa.skip<|AB<|Ac<|Ab rfl<|Aj (Bf (I:=(IT.int .i64)) (Ag rfl) AK) fun x14=>
 Ab rfl<|Aa.next (s5.1,s5.2.1,x14) sB)) (AH<|DI (s5.1,s5.2.1) sB)) (fun p6=>Bd<|Ah<|Af<|Ab rfl<|Aj (Aw rfl (Ag rfl) AK) fun x15=>Ac<|Aa.cond (Ag rfl) (Af<|An (AE (t:=(T.arr 8 (T.int .i64))) (u:=(T.arr 8 (T.int .i64))) (Ag rfl) rfl rfl (At _) rfl rfl) fun x16=>Aa.op (AD QC (.cons (Ag rfl)<| .cons AK<| .one AK)) fun x17=>Ab rfl<|Ac<|Aa.ret (.one (A8 rfl))) (Aa.skip<|Ah<|An (AE (t:=(T.arr 8 (T.int .i64))) (u:=(T.arr 8 (T.int .i64))) (Ag rfl) rfl rfl (At _) rfl rfl) fun x18=>Ab rfl<|Aa.op (AD QC (.cons (Ag rfl)<| .cons AK<| .one (Ag rfl))) fun x19=>Aa.op (CJ (Ag rfl) Df) fun x20=>An (AE (t:=(T.arr 8 (T.int .i64))) (u:=(T.arr 8 (T.int .i64))) (Ag rfl) rfl rfl (At _) rfl rfl) fun x21=>Ab rfl<|Ab rfl<|Aj (Bf (I:=(IT.int .i64)) (Ag rfl) (Ag rfl)) fun x22=>Aa.op (AD QC (.cons (Ag rfl)<| .cons (Ag rfl)<| .one AK)) fun x23=>Aa.op (CJ (Ag rfl) (Ag rfl)) fun x24=>Ab rfl<|Ac<|Aa.ret (.one (A8 rfl))))
theorem cW:Spec tb IM [(T.arr 16 T.u8)] [Ak] (fun a=>RB a):=
 Spec.of lB rfl rfl rfl ZB
noncomputable def RC(a0:(Ar UInt8 4)):Option AR:=(Dl 4 0).bind fun x1=>(a0.l[x1]?).bind fun x2=>(Jb (DA (x2.toNat:Int))).bind fun x4=>(iter (fun(s5:(AR×Int))=>if(decide (s5.2<4))=true then (if s5.1.length+[46].length≤2*B4 then some (s5.1++[46])else none).bind fun x8=>(Dl 4 s5.2).bind fun x9=>(a0.l[x9]?).bind fun x10=>(Jb (DA (x10.toNat:Int))).bind fun x12=>(if x8.length+x12.length≤2*B4 then some (x8++x12)else none).bind fun x13=>some (.inl (x13,IntKind.i64.wrap (s5.2+1))) else some (.inr (.inl s5.1))) (x4,1)).bind (Sum.elim (fun(p6:AR)=>some p6) some)
noncomputable def ZC(a:CF [(T.arr 4 T.u8)]):Cz tb Oe [(T.arr 4 T.u8)] [Ak] a:=Af<|Ai (Eo (t:=(T.arr 4 T.u8)) 1 rfl rfl (Ag rfl)) fun _=>Ad (Aq Df)<|Ah<|Aa.op (DS (Ag rfl) AK) fun x1=>Aa.op (JB (At _) rfl rfl (Ag rfl) rfl rfl) fun x2=>Aj (EO (I:=IT.u8) (J:=IT.u64) rfl (Ag rfl)) fun x3=>Aa.op (AD Mf (.one (Ag rfl))) fun x4=>Ab rfl<|Ah<|Af<|Ad (Aq AK)<|Ac<|A4<|Aa.loop (id:=0) (σ:=(AR×Int)) (τ:=AR) (fun s5=>⟨[(1, .cp 1 0),(3, .val Ak s5.1),(4, .val (T.int .i64) s5.2)],[(1, .cells [(4, .val (T.arr 4 T.u8) a)])]⟩) (fun p6=>⟨[(3, .val Ak p6)],[]⟩) (x4,1) sB (fun _=>rfl) (fun s5=>Af<|Af<|Ab rfl<|Aj (Aw rfl (Ag rfl) AK) fun x7=>Ac<|Aa.cond (Ag rfl) (Aa.skip<|Ah<|A4<|Ab rfl<|Aa.op (CJ (Ag rfl) Df) fun x8=>Ab rfl<|Aa.op (DS (Ag rfl) (Ag rfl)) fun x9=>Aa.op (JB (At _) rfl rfl (Ag rfl) rfl rfl) fun x10=>Aj (EO (I:=IT.u8) (J:=IT.u64) rfl (Ag rfl)) fun x11=>Aa.op (AD Mf (.one (Ag rfl))) fun x12=>Aa.op (CJ (Ag rfl) (Ag rfl)) fun x13=>Ab rfl<|AB<|Ac<|Ab rfl<|Aj (Bf (I:=(IT.int .i64)) (Ag rfl) AK) fun x14=>Ab rfl<|Aa.next (x13,x14) sB) (AH<|DI s5.1 sB)) (fun p6=>Bd<|Ah<|Ab rfl<|Ab rfl<|Ac<|Aa.ret (.one (A8 rfl)))
theorem cX:Spec tb IN [(T.arr 4 T.u8)] [Ak] (fun a=>RC a):=
 Spec.of lC rfl rfl rfl ZC
noncomputable def OS(a0:Be):Option AR:=(Nb a0).bind fun x2=>if(!x2)=true then some [] else if(decide (a0.V=6))=true then (RB a0.B).bind fun x7=>some x7 else (Dl 16 0).bind fun x8=>(a0.B.l[x8]?).bind fun x9=>(Dl 16 1).bind fun x10=>(a0.B.l[x10]?).bind fun x11=>(Dl 16 2).bind fun x12=>(a0.B.l[x12]?).bind fun x13=>(Dl 16 3).bind fun x14=>(a0.B.l[x14]?).bind fun x15=>(RC (⟨[x9,x11,x13,x15],rfl⟩:(Ar UInt8 4))).bind fun x17=>some x17
noncomputable def ZA(a:CF [A7]):Cz tb Oc [A7] [Ak] a:=Af<|Ai (Eo (t:=A7) 1 rfl rfl (Ag rfl)) fun _=>Ad (Aq Df)<|Ah<|Af<|An (AE (t:=A7) (u:=A7) (Ag rfl) rfl rfl (At _) rfl rfl) fun x1=>Aa.op (AD Rw (.one (Ag rfl))) fun x2=>Aj (Gs (Ag rfl)) fun x3=>Ac<|Aa.cond (Ag rfl) (Af<|Ad (Aq Df)<|Ac<|Aa.ret (.one (A8 rfl))) (Aa.skip<|Ah<|Af<|Ad (A6 (Ag rfl))<|An (AE (t:=A7) (u:=(T.int .i64)) (Ag rfl) rfl rfl E3 rfl rfl) fun x4=>Aj (Aw rfl (Ag rfl) AK) fun x5=>Ac<|Aa.cond (Ag rfl) (Af<|Ad (A6 (Ag rfl))<|An (AE (t:=A7) (u:=(T.arr 16 T.u8)) (Ag rfl) rfl rfl DZ rfl rfl) fun x6=>Aa.op (AD cW (.one (Ag rfl))) fun x7=>Ab rfl<|Ac<|Aa.ret (.one (A8 rfl))) (Aa.skip<|Ah<|Ad (A6 (Ag rfl))<|Aa.op (DS (Ag rfl) AK) fun x8=>Aa.op (JB DZ rfl rfl (Ag rfl) rfl rfl) fun x9=>Ad (A6 (Ag rfl))<|Aa.op (DS (Ag rfl) AK) fun x10=>Aa.op (JB DZ rfl rfl (Ag rfl) rfl rfl) fun x11=>Ad (A6 (Ag rfl))<|Aa.op (DS (Ag rfl) AK) fun x12=>Aa.op (JB DZ rfl rfl (Ag rfl) rfl rfl) fun x13=>Ad (A6 (Ag rfl))<|Aa.op (DS (Ag rfl) AK) fun x14=>Aa.op (JB DZ rfl rfl (Ag rfl) rfl rfl) fun x15=>An (NK (t:=T.u8) (⟨[x9,x11,x13,x15],rfl⟩:(Ar UInt8 4)) rfl (.cons (AZ.at 4 T.u8 0 (by decide)) rfl (Ag rfl)<| .cons (AZ.at 4 T.u8 1 (by decide)) rfl (Ag rfl)<| .cons (AZ.at 4 T.u8 2 (by decide)) rfl (Ag rfl)<| .cons (AZ.at 4 T.u8 3 (by decide)) rfl (Ag rfl)<| .nil _)) fun x16=>Aa.op (AD cX (.one (Ag rfl))) fun x17=>Ab rfl<|Ac<|Aa.ret (.one (A8 rfl))))
theorem TJ:Spec tb HK [A7] [Ak] (fun a=>OS a):=
 Spec.of lA rfl rfl rfl ZA
noncomputable def OR(a0:AF):Option AR:=(Na a0).bind fun x2=>if(!x2)=true then some [] else (Jb (DA a0.Port)).bind fun x6=>(if [58].length+x6.length≤2*B4 then some ([58]++x6)else none).bind fun x7=>if(decide (a0.A.V=6))=true then (OS a0.A).bind fun x11=>(if [91].length+x11.length≤2*B4 then some ([91]++x11)else none).bind fun x12=>(if x12.length+[93].length≤2*B4 then some (x12++[93])else none).bind fun x13=>(if x13.length+x7.length≤2*B4 then some (x13++x7)else none).bind fun x14=>some x14 else (OS a0.A).bind fun x16=>(if x16.length+x7.length≤2*B4 then some (x16++x7)else none).bind fun x17=>some x17
noncomputable def Z9(a:CF [Al]):Cz tb Oa [Al] [Ak] a:=Af<|Ai (Eo (t:=Al) 1 rfl rfl (Ag rfl)) fun _=>Ad (Aq Df)<|Ah<|Af<|An (AE (t:=Al) (u:=Al) (Ag rfl) rfl rfl (At _) rfl rfl) fun x1=>Aa.op (AD Rv (.one (Ag rfl))) fun x2=>Aj (Gs (Ag rfl)) fun x3=>Ac<|Aa.cond (Ag rfl) (Af<|Ad (Aq Df)<|Ac<|Aa.ret (.one (A8 rfl))) (Aa.skip<|Ah<|Ad (A6 (Ag rfl))<|An (AE (t:=Al) (u:=(T.int .i64)) (Ag rfl) rfl rfl Dn rfl rfl) fun x4=>Aj (EO (I:=(IT.int .i64)) (J:=IT.u64) rfl (Ag rfl)) fun x5=>Aa.op (AD Mf (.one (Ag rfl))) fun x6=>Aa.op (CJ Df (Ag rfl)) fun x7=>Ab rfl<|Ah<|Af<|Ad (A6 (Ag rfl))<|Ad (A6 (Ag rfl))<|An (AE (t:=Al) (u:=(T.int .i64)) (Ag rfl) rfl rfl (J4 Dj E3) rfl rfl) fun x8=>Aj (Aw rfl (Ag rfl) AK) fun x9=>Ac<|Aa.cond (Ag rfl) (Af<|Ad (A6 (Ag rfl))<|An (AE (t:=Al) (u:=A7) (Ag rfl) rfl rfl Dj rfl rfl) fun x10=>Aa.op (AD TJ (.one (Ag rfl))) fun x11=>Aa.op (CJ Df (Ag rfl)) fun x12=>Aa.op (CJ (Ag rfl) Df) fun x13=>Ab rfl<|Aa.op (CJ (Ag rfl) (Ag rfl)) fun x14=>Ab rfl<|Ac<|Aa.ret (.one (A8 rfl))) (Aa.skip<|Ah<|Ad (A6 (Ag rfl))<|An (AE (t:=Al) (u:=A7) (Ag rfl) rfl rfl Dj rfl rfl) fun x15=>Aa.op (AD TJ (.one (Ag rfl))) fun x16=>Ab rfl<|Aa.op (CJ (Ag rfl) (Ag rfl)) fun x17=>Ab rfl<|Ac<|Aa.ret (.one (A8 rfl))))
theorem TI:Spec tb HJ [Al] [Ak] (fun a=>OR a):=
 Spec.of kZ rfl rfl rfl Z9
noncomputable def MY(a0:Ao):Option AR:=(PA a0.Key).bind fun x2=>(JP x2).bind fun x3=>if(decide (a0.Kind=1))=true then (K5 a0.Bytes).bind fun x7=>(if [114,101,112,108,121,32].length+x7.length≤2*B4 then some ([114,101,112,108,121,32]++x7)else none).bind fun x8=>some x8 else if(decide (a0.Kind=2))=true then (OR a0.To).bind fun x11=>(if [115,101,110,100,32].length+x11.length≤2*B4 then some ([115,101,110,100,32]++x11)else none).bind fun x12=>(if x12.length+[32].length≤2*B4 then some (x12++[32])else none).bind fun x13=>(if x13.length+x3.length≤2*B4 then some (x13++x3)else none).bind fun x14=>(if x14.length+[32].length≤2*B4 then some (x14++[32])else none).bind fun x15=>(K5 a0.Bytes).bind fun x17=>(if x15.length+x17.length≤2*B4 then some (x15++x17)else none).bind fun x18=>some x18 else if(decide (a0.Kind=3))=true then (if [100,101,108,105,118,101,114,32].length+x3.length≤2*B4 then some ([100,101,108,105,118,101,114,32]++x3)else none).bind fun x20=>(if x20.length+[32].length≤2*B4 then some (x20++[32])else none).bind fun x21=>(K5 a0.Bytes).bind fun x23=>(if x21.length+x23.length≤2*B4 then some (x21++x23)else none).bind fun x24=>some x24 else if(decide (a0.Kind=4))=true then (K5 a0.Bytes).bind fun x27=>(if [114,101,102,117,115,101,32].length+x27.length≤2*B4 then some ([114,101,102,117,115,101,32]++x27)else none).bind fun x28=>some x28 else if(decide (a0.Kind=5))=true then (Jb (DA a0.Why)).bind fun x32=>(if [100,114,111,112,32].length+x32.length≤2*B4 then some ([100,114,111,112,32]++x32)else none).bind fun x33=>
 some x33 else (OR a0.To).bind fun x35=>(if [112,97,115,115,32].length+x35.length≤2*B4 then some ([112,97,115,115,32]++x35)else none).bind fun x36=>(if x36.length+[32].length≤2*B4 then some (x36++[32])else none).bind fun x37=>(K5 a0.Bytes).bind fun x39=>(if x37.length+x39.length≤2*B4 then some (x37++x39)else none).bind fun x40=>some x40
noncomputable def Z7(a:CF [Ae]):Cz tb NY [Ae] [Ak] a:=Af<|Ai (Eo (t:=Ae) 1 rfl rfl (Ag rfl)) fun _=>Ad (Aq Df)<|Ah<|Ad (A6 (Ag rfl))<|An (AE (t:=Ae) (u:=(T.arr 32 T.u8)) (Ag rfl) rfl rfl Cf rfl rfl) fun x1=>Aa.op (AD Z2 (.one (Ag rfl))) fun x2=>Aa.op (AD Qu (.one (Ag rfl))) fun x3=>Ab rfl<|Ah<|Af<|Ad (A6 (Ag rfl))<|An (AE (t:=Ae) (u:=(T.int .i64)) (Ag rfl) rfl rfl AN rfl rfl) fun x4=>Ac<|A4<|Af<|Aj (Aw rfl (Ag rfl) AK) fun x5=>Ab rfl<|Ac<|Aa.cond (Ag rfl) (Af<|Ad (A6 (Ag rfl))<|An (AE (t:=Ae) (u:=(T.sl T.u8)) (Ag rfl) rfl rfl AI rfl rfl) fun x6=>Aa.op (AD Ky (.one (Ag rfl))) fun x7=>Aa.op (CJ Df (Ag rfl)) fun x8=>Ab rfl<|Ac<|Aa.ret (.one (A8 rfl))) (Af<|Aj (Aw rfl (Ag rfl) AK) fun x9=>Ab rfl<|Ac<|Aa.cond (Ag rfl) (Af<|Ad (A6 (Ag rfl))<|An (AE (t:=Ae) (u:=Al) (Ag rfl) rfl rfl BB rfl rfl) fun x10=>Aa.op (AD TI (.one (Ag rfl))) fun x11=>Aa.op (CJ Df (Ag rfl)) fun x12=>Aa.op (CJ (Ag rfl) Df) fun x13=>Ab rfl<|Aa.op (CJ (Ag rfl) (Ag rfl)) fun x14=>Aa.op (CJ (Ag rfl) Df) fun x15=>Ad (A6 (Ag rfl))<|An (AE (t:=Ae) (u:=(T.sl T.u8)) (Ag rfl) rfl rfl AI rfl rfl) fun x16=>Aa.op (AD Ky (.one (Ag rfl))) fun x17=>Aa.op (CJ (Ag rfl) (Ag rfl)) fun x18=>Ab rfl<|Ac<|Aa.ret (.one (A8 rfl))) (Af<|Aj (Aw rfl (Ag rfl) AK) fun x19=>Ab rfl<|Ac<|Aa.cond (Ag rfl) (Af<|Ab rfl<|Aa.op (CJ Df (Ag rfl)) fun x20=>Aa.op (CJ (Ag rfl) Df) fun x21=>Ad (A6 (Ag rfl))<|An (AE (t:=Ae) (u:=(T.sl T.u8)) (Ag rfl) rfl rfl AI rfl rfl) fun x22=>Aa.op (AD Ky (.one (Ag rfl))) fun x23=>Aa.op (CJ (Ag rfl) (Ag rfl)) fun x24=>Ab rfl<|
 Ac<|Aa.ret (.one (A8 rfl))) (Af<|Aj (Aw rfl (Ag rfl) AK) fun x25=>Ab rfl<|Ac<|Aa.cond (Ag rfl) (Af<|Ad (A6 (Ag rfl))<|An (AE (t:=Ae) (u:=(T.sl T.u8)) (Ag rfl) rfl rfl AI rfl rfl) fun x26=>Aa.op (AD Ky (.one (Ag rfl))) fun x27=>Aa.op (CJ Df (Ag rfl)) fun x28=>Ab rfl<|Ac<|Aa.ret (.one (A8 rfl))) (Af<|Aj (Aw rfl (Ag rfl) AK) fun x29=>Ab rfl<|Ac<|Aa.cond (Ag rfl) (Af<|Ad (A6 (Ag rfl))<|An (AE (t:=Ae) (u:=(T.int .i64)) (Ag rfl) rfl rfl BN rfl rfl) fun x30=>Aj (EO (I:=(IT.int .i64)) (J:=IT.u64) rfl (Ag rfl)) fun x31=>Aa.op (AD Mf (.one (Ag rfl))) fun x32=>Aa.op (CJ Df (Ag rfl)) fun x33=>Ab rfl<|Ac<|Aa.ret (.one (A8 rfl))) (Aa.skip<|AB<|Ah<|Ad (A6 (Ag rfl))<|An (AE (t:=Ae) (u:=Al) (Ag rfl) rfl rfl BB rfl rfl) fun x34=>Aa.op (AD TI (.one (Ag rfl))) fun x35=>Aa.op (CJ Df (Ag rfl)) fun x36=>Aa.op (CJ (Ag rfl) Df) fun x37=>Ad (A6 (Ag rfl))<|An (AE (t:=Ae) (u:=(T.sl T.u8)) (Ag rfl) rfl rfl AI rfl rfl) fun x38=>Aa.op (AD Ky (.one (Ag rfl))) fun x39=>Aa.op (CJ (Ag rfl) (Ag rfl)) fun x40=>Ab rfl<|Ac<|Aa.ret (.one (A8 rfl)))))))
theorem cV:Spec tb IL [Ae] [Ak] (fun a=>MY a):=
 Spec.of kX rfl rfl rfl Z7
noncomputable def LI(a0:Ao):Option Bool:=(Wo a0).bind fun x2=>if x2=true then (L2 ()).bind fun x3=>some x3 else (F2 a0).bind fun x5=>(Ep a0).bind fun x7=>(E4 a0).bind fun x11=>if(!decide (x11=x5))=true then some false else if(!x5)=true then (Cy (decide (x7.1=[])) (some (decide (x7.2=1)))).bind fun x16=>(Cy x16 ((L2 ()).bind fun x17=>some x17)).bind fun x18=>some x18 else (C6 x7.1).bind fun x19=>(MY a0).bind fun x25=>(Cy (decide (x7.1=x25)) (some (decide (x7.2=0)))).bind fun x28=>(Cy x28 ((MZ x19.1 a0).bind fun x31=>some x31)).bind fun x32=>(Cy x32 (some (decide (x19.2=0)))).bind fun x34=>(Cy x34 ((L2 ()).bind fun x35=>some x35)).bind fun x36=>some x36
noncomputable def QF(a:CF [Ae]):Cz tb Ie [Ae] [T.b] a:=Af<|Ai (Eo (t:=Ae) 1 rfl rfl (Ag rfl)) fun _=>Ad (Aq En)<|Ah<|Af<|An (AE (t:=Ae) (u:=Ae) (Ag rfl) rfl rfl (At _) rfl rfl) fun x1=>Aa.op (AD cZ (.one (Ag rfl))) fun x2=>Ac<|Aa.cond (Ag rfl) (Af<|Aa.op (AD Ny (.nil)) fun x3=>Ab rfl<|Ac<|Aa.ret (.one (A8 rfl))) (Aa.skip<|Ah<|An (AE (t:=Ae) (u:=Ae) (Ag rfl) rfl rfl (At _) rfl rfl) fun x4=>Aa.op (AD Z1 (.one (Ag rfl))) fun x5=>Ab rfl<|Ah<|An (AE (t:=Ae) (u:=Ae) (Ag rfl) rfl rfl (At _) rfl rfl) fun x6=>Aa.op (Cd Qt (.one (Ag rfl))) fun x7=>Ab rfl<|An (Bs (Ag rfl) rfl) fun x8=>An (Bs (Ag rfl) rfl) fun x9=>Ab rfl<|Ab rfl<|Ah<|Af<|An (AE (t:=Ae) (u:=Ae) (Ag rfl) rfl rfl (At _) rfl rfl) fun x10=>Aa.op (AD OK (.one (Ag rfl))) fun x11=>Ab rfl<|Aj (h_eqb (neg:=true) (Ag rfl) (Ag rfl)) fun x12=>Ac<|Aa.cond (Ag rfl) (Af<|Ad (Aq En)<|Ac<|Aa.ret (.one (A8 rfl))) (Aa.skip<|Ah<|Af<|Ab rfl<|Aj (Gs (Ag rfl)) fun x13=>Ac<|Aa.cond (Ag rfl) (Af<|Ab rfl<|Aj (HG (Ag rfl) Df) fun x14=>Ab rfl<|Aa.and 2 rfl rfl rfl (AX (Aq (Ag rfl))<|B9 (Aw rfl (Ag rfl) AK) fun x15=>Bt.nil (Ag rfl)) fun x16=>Ab rfl<|Aa.and 1 rfl rfl rfl (Bt.op (AD Ny (.nil)) fun x17=>Bt.nil (Ag rfl)) fun x18=>Ab rfl<|Ac<|Aa.ret (.one (A8 rfl))) (Aa.skip<|Ah<|Ab rfl<|Aa.op (Cd Vz (.one (Ag rfl))) fun x19=>Ab rfl<|An (Bs (Ag rfl) rfl) fun x20=>An (Bs (Ag rfl) rfl) fun x21=>Ai (CH (t:=Ae) 6 rfl rfl) fun x22=>Ai (Bj (Ag rfl) (Ag rfl) rfl rfl (At _) rfl) fun x23=>Ab rfl<|Ah<|Ab rfl<|An (AE (t:=Ae) (u:=Ae) (Ag rfl) rfl rfl (At _) rfl rfl) fun x24=>
 Aa.op (AD cV (.one (Ag rfl))) fun x25=>Aj (HG (Ag rfl) (Ag rfl)) fun x26=>Ab rfl<|Aa.and 2 rfl rfl rfl (AX (Aq (Ag rfl))<|B9 (Aw rfl (Ag rfl) AK) fun x27=>Bt.nil (Ag rfl)) fun x28=>Ab rfl<|Aa.and 3 rfl rfl rfl (BD (AE (t:=Ae) (u:=Ae) (Ag rfl) rfl rfl (At _) rfl rfl) fun x29=>BD (AE (t:=Ae) (u:=Ae) (Ag rfl) rfl rfl (At _) rfl rfl) fun x30=>Bt.op (AD TH (.cons (Ag rfl)<| .one (Ag rfl))) fun x31=>Bt.nil (Ag rfl)) fun x32=>Ab rfl<|Aa.and 2 rfl rfl rfl (AX (Aq (Ag rfl))<|B9 (Aw rfl (Ag rfl) AK) fun x33=>Bt.nil (Ag rfl)) fun x34=>Ab rfl<|Aa.and 1 rfl rfl rfl (Bt.op (AD Ny (.nil)) fun x35=>Bt.nil (Ag rfl)) fun x36=>Ab rfl<|Ac<|Aa.ret (.one (A8 rfl)))))
theorem Rx:Spec tb EF [Ae] [T.b] (fun a=>LI a):=
 Spec.of Tn rfl rfl rfl QF
end Go.Proofs.YtobejhpigbllpaaGreatDoor.Am
end

namespace Go.Proofs.YtobejhpigbllpaaGreatDoor.Am
theorem Aa3{n k:Nat}(h:n<k):Dl k (n:Int)=some n:=CN h
theorem scanK{β ρ:Type}{k n:Nat}{F:Int→Option (Int⊕(Unit⊕β))}{K:Unit⊕β→Option ρ}(q:Nat→Option β)(hk:k≤n)(hn:n<4611686018427387904)(h1: ∀i:Nat,k≤i→i<n→F (i:Int)=some (match q i with|none=> .inl (IntKind.i64.wrap ((i:Int)+1))|some b=> .inr (.inr b)))
  (h2:F (n:Int)=some (.inr (.inl ()))):(iter F (k:Int)).bind K=(match(List.range' k (n-k)).findSome? q with|none=>K (.inl ())|some b=>K (.inr b)):=by
 refine EE (fun s=>n-s.toNat) (fun s=> ∃i:Nat,s=i∧k≤i∧i≤n∧ ∀j,k≤j→j<i→q j=none)
  (fun r=>(r= .inl ()∧ ∀j,k≤j→j<n→q j=none)∨ ∃b,r= .inr b∧(List.range' k (n-k)).findSome? q=some b) ⟨k,rfl,Nat.le_refl _,hk,by omega⟩ ?_ ?_
 ·rintro s ⟨i,rfl,hki,hi,hq⟩
  rcases Nat.lt_or_ge i n with hlt|hge
  ·rw[h1 i hki hlt]
   cases e:q i with
   |none=>
    left
    refine⟨_,rfl,⟨i+1,?_,by omega,by omega,fun j hj1 hj=> ?_⟩,?_⟩
    ·rw[show(i:Int)+1=((i+1:Nat):Int) by omega,BF (by omega)]
    ·rcases Nat.lt_or_ge j i with h|h
     ·exact hq j hj1 h
     ·obtain rfl:j=i:=by omega
      exact e
    ·rw[show(i:Int)+1=((i+1:Nat):Int) by omega,BF (by omega)];omega
   |some b=>
    right
    refine⟨_,rfl, .inr ⟨b,rfl,?_⟩⟩
    have:List.range' k (n-k)=List.range' k (i-k)++i::List.range' (i+1) (n-(i+1)):=by
     rw[show n-k=(i-k)+(1+(n-(i+1))) by omega,←List.range'_append_1,←List.range'_append_1]
     simp only[List.range'_one,List.singleton_append,List.append_cancel_left_eq]
     rw[show k+(i-k)=i by omega]
    rw[this,List.findSome?_append,List.findSome?_eq_none_iff.2 (fun j hj=>by
     rw[List.mem_range'_1]at hj;exact hq j hj.1 (by omega))]
    simp[e]
  ·obtain rfl:i=n:=by omega
   right
   exact⟨_,h2, .inl ⟨rfl,hq⟩⟩
 ·rintro _ (⟨rfl,h⟩|⟨b,rfl,h⟩)
  ·rw[List.findSome?_eq_none_iff.2 (fun j hj=>by rw[List.mem_range'_1]at hj;exact h j hj.1 (by omega))]
  ·rw[h]
theorem cmpA(x y:Be):Yq Ou x y=decide (x=y):=
 if h:x=y then(Xe (t:=A7) h).trans (decide_eq_true h).symm else(bN (t:=A7) h).trans (decide_eq_false h).symm
theorem cmpE(x y:AF):Yq HV x y=decide (x=y):=
 if h:x=y then(Xe (t:=Al) h).trans (decide_eq_true h).symm else(bN (t:=Al) h).trans (decide_eq_false h).symm
def ER(a:Be):Bool:=decide (a.V=6∨(a.V=4∧a.B.l.drop 4=List.replicate 12 0))
theorem vV(b0 b1 b2 b3:UInt8)(h:[b0,b1,b2,b3].length=4):JZ ⟨[b0,b1,b2,b3],h⟩=some ⟨4,⟨[b0,b1,b2,b3,0,0,0,0,0,0,0,0,0,0,0,0],rfl⟩⟩:=by
 unfold JZ
 rfl
theorem qN(b0 b1 b2 b3 b4 b5 b6 b7 b8 b9 b10 b11 b12 b13 b14 b15:UInt8)(h:(([b0,b1,b2,b3,b4,b5,b6,b7,b8,b9,b10,b11,b12,b13,b14,b15].drop 0).take 4).length=4):
  JZ ⟨([b0,b1,b2,b3,b4,b5,b6,b7,b8,b9,b10,b11,b12,b13,b14,b15].drop 0).take 4,h⟩=some ⟨4,⟨[b0,b1,b2,b3,0,0,0,0,0,0,0,0,0,0,0,0],rfl⟩⟩:=vV b0 b1 b2 b3 rfl
theorem bytes16{p:Be→Prop}(h: ∀(V:Int) (b0 b1 b2 b3 b4 b5 b6 b7 b8 b9 b10 b11 b12 b13 b14 b15:UInt8),p ⟨V,⟨[b0,b1,b2,b3,b4,b5,b6,b7,b8,b9,b10,b11,b12,b13,b14,b15],rfl⟩⟩): ∀a,p a:=by
 rintro⟨V,⟨l,hl⟩⟩
 match l,hl with
 |[b0,b1,b2,b3,b4,b5,b6,b7,b8,b9,b10,b11,b12,b13,b14,b15],_=>exact h V b0 b1 b2 b3 b4 b5 b6 b7 b8 b9 b10 b11 b12 b13 b14 b15
theorem Rp(a:Be):JY a=some (ER a):=by
 revert a
 refine bytes16 fun V b0 b1 b2 b3 b4 b5 b6 b7 b8 b9 b10 b11 b12 b13 b14 b15=> ?_
 unfold JY
 by_cases h6:V=6
 ·simp[h6,PF,ER]
 ·by_cases hv:V=4
  ·subst hv
   have e4:((4:Int)=6)=False:=by simp
   simp only[PF,Cy,e4,decide_false,Bool.false_eq_true,if_false,decide_true,if_true,qN,Option.bind_some,cmpA,ER]
   congr 1
   simp[Be.mk.injEq,Ar.mk.injEq,List.replicate]
  ·simp[h6,hv,PF,Cy,ER]
theorem get16(B:Ar UInt8 16){i:Nat}(h:i<16): ∃b,B.l[i]? =some b:=⟨B.l[i]'(by rw[B.len];exact h),List.getElem?_eq_getElem _⟩
theorem Y8(a:Be):Nb a=some (ER a):=by
 unfold Nb
 by_cases h6:a.V=6
 ·simp[h6,ER]
 ·rw[if_neg (by simpa using h6)]
  rw[show(4:Int)=((4:Nat):Int)from rfl,scanK (n:=16) (fun i=>if a.B.l[i]? =some 0 then none else some false) (by decide) (by decide)]
  ·cases e:(List.range' 4 (16-4)).findSome? (fun i=>if a.B.l[i]? =some 0 then none else some false)with
   |none=>
    simp only[Sum.elim_inl]
    have hz:a.B.l.drop 4=List.replicate 12 0:=by
     apply List.ext_getElem?
     intro i
     rw[List.getElem?_drop]
     rcases Nat.lt_or_ge i 12 with hi|hi
     ·have:=List.findSome?_eq_none_iff.1 e (4+i) (by rw[List.mem_range'_1];omega)
      rw[List.getElem?_replicate,if_pos hi]
      by_cases h:a.B.l[4+i]? =some 0
      ·exact h
      ·simp[h]at this
     ·rw[List.getElem?_eq_none (by rw[a.B.len];omega),List.getElem?_eq_none (by simp;omega)]
    simp[ER,h6,hz]
   |some b=>
    obtain⟨i,hi,h'⟩:=List.exists_of_findSome?_eq_some e
    rw[List.mem_range'_1]at hi
    have hb:b=false:=by split at h'<;>simp_all
    subst hb
    simp only[Sum.elim_inr]
    have: ¬a.B.l.drop 4=List.replicate 12 0:=fun hz=>by
     have h:=congrArg (fun l=>l[i-4]?) hz
     simp only[List.getElem?_drop,List.getElem?_replicate]at h
     rw[show 4+(i-4)=i by omega,if_pos (by omega)]at h
     rw[h]at h';simp at h'
    have hr:ER a=false:=decide_eq_false (by
     rintro(h|⟨_,h⟩)
     ·exact h6 h
     ·exact this h)
    rw[hr]
  ·intro i h4 hi
   obtain⟨b,hb⟩:=get16 a.B hi
   rw[if_pos (by simp;omega),Aa3 hi,Option.bind_some,hb]
   simp only[Option.bind_some,Option.some.injEq]
   have e0:((b.toNat:Int)=((0:UInt8).toNat:Int))↔b=0:=by
    constructor
    ·intro h;exact UInt8.toNat_inj.1 (by exact_mod_cast h)
    ·rintro rfl;rfl
   by_cases h:b=0
   ·simp[h]
   ·simp only[e0,h,decide_false,Bool.not_false,if_true,if_false];rfl
  ·rw[if_neg (by decide)]
def Zv(a:Be):Nat:=if ER a=true then(if a.V=4 then 32 else 128)else 0
theorem mC(a:Be):Oo a=some (Zv a:Int):=by
 unfold Oo Zv
 rw[Rp]
 cases ER a with
 |false=>simp
 |true=>by_cases h:a.V=4<;>simp[h]
theorem K6(b:UInt8):UInt8.ofNat b.toNat=b:=by simp
theorem u64N{m:Nat}(h:m<18446744073709551616):(DA (m:Int)).toNat=m:=by
 unfold DA
 rw[show((m:Int)%18446744073709551616).toNat=m by omega]
 simp[UInt64.toNat_ofNat,h]
def Gj(e:AF):Bool:=ER e.A&&(decide (1≤e.Port)&&decide (e.Port≤65535))
theorem QY(e:AF):Gp e=some (Gj e):=by
 unfold Gp Gj
 rw[Rp]
 cases ER e.A<;>by_cases h1:1≤e.Port<;>simp[Cy,h1]
theorem SO(e:AF):Na e=some (Gj e):=by
 unfold Na Gj
 rw[Y8]
 cases ER e.A<;>by_cases h1:1≤e.Port<;>simp[Cy,h1]
end Go.Proofs.YtobejhpigbllpaaGreatDoor.Am
namespace Go.Proofs.YtobejhpigbllpaaGreatDoor.Am
theorem Q3(l:AR)(c:UInt8):Hy l c=some (Nk l c):=rfl
theorem Vk(l:AR)(c:UInt8)(hl:l.length<1099511627776):((∀x∈l,x≠c)∧F3 l c=some (l,[],false))∨ ∃p q,l=p++c::q∧(∀x∈p,x≠c)∧F3 l c=some (p,q,true):=by
 rcases Pq l c with ⟨h,e⟩|⟨p,q,rfl,h,e⟩
 ·left
  exact⟨h,by simp[F3,Q3,e]⟩
 ·right
  refine⟨p,q,rfl,h,?_⟩
  have hlen:(p++c::q).length=p.length+(q.length+1):=by simp
  simp only[F3,Q3,e,Option.bind_some]
  rw[if_neg (by simp),Vb (by omega),show(p.length:Int)+1=((p.length+1:Nat):Int) by omega,BF (by omega),MT (by omega)]
  simp[List.drop_append]
theorem YD(l:AR)(c:UInt8)(hl:l.length<1073741824):IJ l c=some (.mk (Bq c l)):=by
 unfold IJ
 rw[vB (b:= .inr (.mk (Bq c l))) (fun s=>s.1.length) (fun s=>s.2.l++Bq c s.1=Bq c l∧s.1.length+s.2.l.length≤l.length)]
 ·rfl
 ·rintro⟨s,g⟩ ⟨h1,h2⟩
  dsimp only at h1 h2 ⊢
  have hap: ∀x,Sx 16 g [x]=some (.mk (g.l++[x])):=fun x=>Vo (by unfold B4;omega)
  rcases Vk s c (by omega)with ⟨hn,e⟩|⟨p,q,rfl,hn,e⟩
  ·right
   simp only[e,Option.bind_some,hap]
   rw[IF hn]at h1
   simp[h1]
  ·left
   refine⟨(q, .mk (g.l++[p])),?_,?_,?_⟩
   ·simp only[e,Option.bind_some,hap];simp
   ·rw[HB hn]at h1
    simp only[List.length_append,List.length_cons]at h2
    refine⟨by simpa using h1,?_⟩
    simp only[Lx,List.length_append,List.length_cons,List.length_nil];omega
   ·simp;omega
 ·exact⟨by simp,by simp⟩
theorem W7(c:UInt8): ∀l:AR,Lib.index l [c]=Nk l c
 |[]=>rfl
 |x::l=>by
  have ih:=W7 c l
  have hg:=Lib.index_ge l [c]
  unfold Lib.index
  by_cases h:x=c
  ·subst h
   simp[Nk,List.findIdx?_cons,List.isPrefixOf]
  ·have h': ¬c=x:=fun e=>h e.symm
   rw[if_neg (by simp[List.isPrefixOf,h'])]
   rw[ih]
   unfold Nk
   rw[List.findIdx?_cons]
   have hx:(x==c)=false:=by simpa using h
   rw[hx]
   cases e:l.findIdx? (fun y=>y==c)with
   |none=>simp
   |some i=>
    simp only[Option.map_some,Bool.false_eq_true,if_false]
    rw[if_neg (by simp)]
    simp
theorem qF(l:AR)(c:UInt8)(hl:l.length<1073741824):Kd l [c]=some (Nk l c):=by
 unfold Kd
 have:Cg l [c]=some (Nk l c):=by
  unfold Cg indexS
  rw[if_pos (by omega),W7]
 rw[this];rfl
end Go.Proofs.YtobejhpigbllpaaGreatDoor.Am
namespace Go.Proofs.YtobejhpigbllpaaGreatDoor.Am
def blk(c:UInt8):Bool:=c==32||c==9||c==13
end Go.Proofs.YtobejhpigbllpaaGreatDoor.Am
namespace Go.Proofs.YtobejhpigbllpaaGreatDoor.Am
end Go.Proofs.YtobejhpigbllpaaGreatDoor.Am
namespace Go.Proofs.YtobejhpigbllpaaGreatDoor.Am
theorem fL(l:AR)(k:Nat)(h:k<l.length):(⟨l.toArray⟩:ByteArray).get! k=l[k]:=by
 show l.toArray[k]! =l[k]
 rw[getElem!_pos _ _ (by simpa using h)];simp
theorem iZ(l:AR)(pos:Nat)(h:pos<l.length):(l[pos].toNat<128∧Ht l pos=((l[pos].toNat:Int),1))∨
  (128≤l[pos].toNat∧128≤(Ht l pos).1∧1≤(Ht l pos).2∧ ∀j,j<(Ht l pos).2→ ∃hj:pos+j<l.length,128≤(l[pos+j]).toNat):=by
 have hsz:(⟨l.toArray⟩:ByteArray).size=l.length:=by simp[ByteArray.size]
 have h0:=fL l pos h
 by_cases hb:l[pos].toNat<128
 ·left
  refine⟨hb,?_⟩
  simp only[Ht,Utf8.decode,Nat.add_zero,h0,hb,if_true]
 ·right
  have hb':128≤l[pos].toNat:=by omega
  refine⟨hb',?_⟩
  have hd0: ∀j,j<1→ ∃hj:pos+j<l.length,128≤(l[pos+j]).toNat:=fun j hj=>by
   obtain rfl:j=0:=by omega
   exact⟨h,hb'⟩
  have hc: ∀k,(decide (pos+k<(⟨l.toArray⟩:ByteArray).size)&&((⟨l.toArray⟩:ByteArray).get! (pos+k)).toNat/64==2)=true→ ∃hj:pos+k<l.length,128≤(l[pos+k]).toNat:=fun k hk=>by
   simp only[Bool.and_eq_true,decide_eq_true_eq,beq_iff_eq,hsz]at hk
   refine⟨hk.1,?_⟩
   have:=hk.2
   rw[fL l _ hk.1]at this
   omega
  simp only[Ht,Utf8.decode,Nat.add_zero,h0]
  rw[if_neg hb]
  have err:(128:Int)≤((Utf8.runeError:Nat):Int):=by simp[Utf8.runeError]
  split
  ·rename_i hx
   simp only[Bool.and_eq_true]at hx
   have h1:=hc 1 (by simpa using hx.2)
   split
   ·rename_i hy
    refine⟨by simp only;omega,by simp,fun j hj=> ?_⟩
    simp only at hj
    rcases(show j=0∨j=1 by omega)with rfl|rfl
    ·exact hd0 0 (by omega)
    ·exact h1
   ·exact⟨err,by simp,hd0⟩
  ·split
   ·rename_i hx
    simp only[Bool.and_eq_true]at hx
    have h1:=hc 1 (by simpa using hx.1.2)
    have h2:=hc 2 (by simpa using hx.2)
    split
    ·rename_i hy
     simp only[Bool.and_eq_true,decide_eq_true_eq]at hy
     refine⟨by simp only;omega,by simp,fun j hj=> ?_⟩
     simp only at hj
     rcases(show j=0∨j=1∨j=2 by omega)with rfl|rfl|rfl
     ·exact hd0 0 (by omega)
     ·exact h1
     ·exact h2
    ·exact⟨err,by simp,hd0⟩
   ·split
    ·rename_i hx
     simp only[Bool.and_eq_true]at hx
     have h1:=hc 1 (by simpa using hx.1.1.2)
     have h2:=hc 2 (by simpa using hx.1.2)
     have h3:=hc 3 (by simpa using hx.2)
     split
     ·rename_i hy
      simp only[Bool.and_eq_true,decide_eq_true_eq]at hy
      refine⟨by simp only;omega,by simp,fun j hj=> ?_⟩
      simp only at hj
      rcases(show j=0∨j=1∨j=2∨j=3 by omega)with rfl|rfl|rfl|rfl
      ·exact hd0 0 (by omega)
      ·exact h1
      ·exact h2
      ·exact h3
     ·exact⟨err,by simp,hd0⟩
    ·exact⟨err,by simp,hd0⟩
def two(a b c:UInt8):Bool:=c==a||c==b
end Go.Proofs.YtobejhpigbllpaaGreatDoor.Am
namespace Go.Proofs.YtobejhpigbllpaaGreatDoor.Am
theorem Yp(l:AR)(c:UInt8)(hl:l.length<1073741824):HW l [c]=some (decide (c∈l)):=by
 simp only[HW,qF l c hl,Option.bind_some]
 congr 1
 rw[Bool.eq_iff_iff]
 simp only[decide_eq_true_eq]
 rcases Pq l c with ⟨h,e⟩|⟨p,q,rfl,h,e⟩
 ·rw[e]
  exact⟨fun h=>by omega,fun hm=>absurd rfl (h c hm)⟩
 ·rw[e];simp
end Go.Proofs.YtobejhpigbllpaaGreatDoor.Am
namespace Go.Proofs.YtobejhpigbllpaaGreatDoor.Am
end Go.Proofs.YtobejhpigbllpaaGreatDoor.Am
namespace Go.Proofs.YtobejhpigbllpaaGreatDoor.Am
end Go.Proofs.YtobejhpigbllpaaGreatDoor.Am
namespace Go.Proofs.YtobejhpigbllpaaGreatDoor.Am
def Mt:Nat→Nat→AR
 |0,_=>[]
 |k+1,n=>if n<10 then [UInt8.ofNat (48+n)]else Mt k (n/10)++[UInt8.ofNat (48+n%10)]
def DP(n:Nat):AR:=Mt 20 n
theorem WY: ∀(k n:Nat),n<10^(k+1)→Mt (k+2) n=Mt (k+1) n
 |0,n,h=>by
  have h:n<10:=by simpa using h
  simp[Mt,h]
 |k+1,n,h=>by
  by_cases hn:n<10
  ·simp[Mt,hn]
  ·have hd:n/10<10^(k+1):=by
    rw[Nat.div_lt_iff_lt_mul (by decide),←Nat.pow_succ];exact h
   have ih:=WY k (n/10) hd
   rw[Mt,if_neg hn,ih]
   conv=>rhs;rw[Mt,if_neg hn]
theorem bJ{n:Nat}(h:n<18446744073709551616):DP n=if n<10 then [UInt8.ofNat (48+n)]else DP (n/10)++[UInt8.ofNat (48+n%10)]:=by
 unfold DP
 rw[WY 18 (n/10) (by omega)]
 rfl
theorem YZ: ∀(k n:Nat),(Mt k n).length≤k
 |0,_=>by simp[Mt]
 |k+1,n=>by
  rw[Mt]
  split
  ·simp
  ·simp[YZ k]
theorem Jq(n:Nat):(DP n).length≤20:=YZ 20 n
theorem Zx{m:Nat}(h:m<18446744073709551616):(IT.u64.ofI (m:Int)).toNat=m:=by
 show(UInt64.ofNat ((m:Int)%18446744073709551616).toNat).toNat=m
 rw[show((m:Int)%18446744073709551616).toNat=m by omega]
 simp[UInt64.toNat_ofNat,h]
theorem u8_of{m:Nat}(h:m<256):IT.u8.ofI (m:Int)=UInt8.ofNat m:=by
 show UInt8.ofNat ((m:Int)%256).toNat=_
 rw[show((m:Int)%256).toNat=m by omega]
theorem r03_r: ∀(k:Nat) (a:UInt64),(Er k a=none∨Er k a=some (DP a.toNat))∧(a.toNat<10^(k+1)→Er (k+1) a=some (DP a.toNat)):=by
 have step: ∀(k:Nat) (a:UInt64),Er (k+1) a=if a.toNat<10 then some (DP a.toNat)else(Er k (IT.u64.ofI ((a.toNat/10:Nat):Int))).bind fun x=>if x.length+1≤2*B4 then some (x++[UInt8.ofNat (48+a.toNat%10)])else none:=by
  intro k a
  have ha:=a.toNat_lt
  have e10:((10:UInt64).toNat:Int)=((10:Nat):Int):=rfl
  have e48:((48:UInt64).toNat:Int)=((48:Nat):Int):=rfl
  have hm:(IT.u64.ofI (Int.tmod (a.toNat:Int) ((10:Nat):Int))).toNat=a.toNat%10:=by
   rw[←Int.ofNat_tmod,Zx (by omega)]
  have h48:(IT.u64.ofI (((48:Nat):Int)+((a.toNat%10:Nat):Int))).toNat=48+a.toNat%10:=by
   rw[show(((48:Nat):Int)+((a.toNat%10:Nat):Int))=((48+a.toNat%10:Nat):Int) by omega,Zx (by omega)]
  rw[Er,e10,if_neg (by decide),Option.bind_some]
  simp only[e48,hm,h48]
  rw[u8_of (by omega)]
  by_cases hl:a.toNat<10
  ·rw[if_pos (by rw[decide_eq_true_eq];omega),if_pos hl,bJ (by omega),if_pos hl,show 48+a.toNat%10=48+a.toNat by omega]
  ·rw[if_neg (by rw[decide_eq_true_eq];omega),if_neg hl,if_neg (by decide),Option.bind_some,←Int.ofNat_tdiv]
   cases Er k (IT.u64.ofI ((a.toNat/10:Nat):Int))with
   |none=>rfl
   |some x=>simp[Option.bind_some]
 have fin: ∀(k:Nat) (a:UInt64),¬a.toNat<10→Er k (IT.u64.ofI ((a.toNat/10:Nat):Int))=some (DP (IT.u64.ofI ((a.toNat/10:Nat):Int)).toNat)→Er (k+1) a=some (DP a.toNat):=by
  intro k a hl e
  have ha:=a.toNat_lt
  rw[step,if_neg hl,e,Zx (by omega),Option.bind_some,if_pos (by have:=Jq (a.toNat/10);unfold B4;omega)]
  conv=>rhs;rw[bJ (by omega),if_neg hl]
 intro k
 induction k with
 |zero=>
  intro a
  refine⟨.inl rfl,fun h=> ?_⟩
  rw[step,if_pos (by simpa using h)]
 |succ k ih=>
  intro a
  have ha:=a.toNat_lt
  refine⟨?_,fun h=> ?_⟩
  ·by_cases hl:a.toNat<10
   ·right;rw[step,if_pos hl]
   ·rcases(ih (IT.u64.ofI ((a.toNat/10:Nat):Int))).1 with e|e
    ·left;rw[step,if_neg hl,e];rfl
    ·right;exact fin k a hl e
  ·by_cases hl:a.toNat<10
   ·rw[step,if_pos hl]
   ·refine fin (k+1) a hl ((ih _).2 ?_)
    rw[Zx (by omega),Nat.div_lt_iff_lt_mul (by decide),←Nat.pow_succ]
    exact h
theorem ZM(a:UInt64):Jb a=some (DP a.toNat):=
 fO (fun n=>(r03_r n a).1) ((r03_r 19 a).2 (by have:=a.toNat_lt;omega))
def fN{α:Type}:List α→GS α
 |[]=> .nil
 |x::l=> .mk (x::l)
theorem RX{α:Type}: ∀l:List α,(fN l).l=l
 |[]=>rfl
 |_::_=>rfl
theorem WE{α:Type}: ∀(l:List α) (x:α),fN (l++[x])= .mk (l++[x])
 |[],_=>rfl
 |_::_,_=>rfl
end Go.Proofs.YtobejhpigbllpaaGreatDoor.Am
namespace Go.Proofs.YtobejhpigbllpaaGreatDoor.Am
def sW:Nat→Nat→AR
 |0,_=>[]
 |w+1,n=>sW w (n/10)++[UInt8.ofNat (48+n%10)]
theorem gV: ∀(N k n:Nat),N<k→n<10^(N+1)→(N=0∨10^N≤n)→Mt k n=sW (N+1) n
 |0,k+1,n,_,h,_=>by
  have hn:n<10:=by simpa using h
  rw[Mt,if_pos hn]
  simp[sW,Nat.mod_eq_of_lt hn]
 |N+1,k+1,n,hk,h,h'=>by
  have h1:10^(N+1)≤n:=h'.resolve_left (by omega)
  have h10:10≤n:=Nat.le_trans (by rw[Nat.pow_succ];have:=Nat.pow_pos (n:=N) (show 0<10 by decide);omega) h1
  rw[Mt,if_neg (by omega),gV N k (n/10) (by omega) ((Nat.div_lt_iff_lt_mul (by decide)).2 (by rw[←Nat.pow_succ];exact h)) (.inr ((Nat.le_div_iff_mul_le (by decide)).2 (by rw[←Nat.pow_succ];exact h1)))]
  rfl
theorem Kb{m:Nat}(h:m<18446744073709551616):(DA (m:Int)).toNat=m:=u64N h
theorem Nu{m:Nat}(h:m<4294967296):(Dt (m:Int)).toNat=m:=by
 show(UInt32.ofNat ((m:Int)%4294967296).toNat).toNat=m
 rw[show((m:Int)%4294967296).toNat=m by omega]
 simp[UInt32.toNat_ofNat,h]
theorem mod64(x c:UInt64)(hc:0<c.toNat): ∃y:UInt64,(if(c.toNat:Int)=0 then none else some (DA (Int.tmod (x.toNat:Int) (c.toNat:Int))))=some y∧y.toNat=x.toNat%c.toNat:=
 ⟨_,if_neg (by omega),by rw[←Int.ofNat_tmod,Kb (by have:=x.toNat_lt;have:=Nat.mod_le x.toNat c.toNat;omega)]⟩
theorem div64(x c:UInt64)(hc:0<c.toNat): ∃y:UInt64,(if(c.toNat:Int)=0 then none else some (DA (Int.tdiv (x.toNat:Int) (c.toNat:Int))))=some y∧y.toNat=x.toNat/c.toNat:=
 ⟨_,if_neg (by omega),by rw[←Int.ofNat_tdiv,Kb (by have:=x.toNat_lt;have:=Nat.div_le_self x.toNat c.toNat;omega)]⟩
theorem YK(x c:UInt32)(hc:0<c.toNat): ∃y:UInt32,(if(c.toNat:Int)=0 then none else some (Dt (Int.tmod (x.toNat:Int) (c.toNat:Int))))=some y∧y.toNat=x.toNat%c.toNat:=
 ⟨_,if_neg (by omega),by rw[←Int.ofNat_tmod,Nu (by have:=x.toNat_lt;have:=Nat.mod_le x.toNat c.toNat;omega)]⟩
theorem YY(x c:UInt32)(hc:0<c.toNat): ∃y:UInt32,(if(c.toNat:Int)=0 then none else some (Dt (Int.tdiv (x.toNat:Int) (c.toNat:Int))))=some y∧y.toNat=x.toNat/c.toNat:=
 ⟨_,if_neg (by omega),by rw[←Int.ofNat_tdiv,Nu (by have:=x.toNat_lt;have:=Nat.div_le_self x.toNat c.toNat;omega)]⟩
theorem Xa(x:UInt32)(h:x.toNat<1000):(Dt ((x.toNat:Int)*((2:UInt32).toNat:Int))).toNat=2*x.toNat:=by
 rw[show((x.toNat:Int)*((2:UInt32).toNat:Int))=((2*x.toNat:Nat):Int) by rw[show((2:UInt32).toNat:Int)=2 from rfl];omega,Nu (by omega)]
theorem inc32(x:UInt32)(h:x.toNat<1000):((Dt ((x.toNat:Int)+((1:UInt32).toNat:Int))).toNat:Int)=((x.toNat+1:Nat):Int):=by
 rw[show((x.toNat:Int)+((1:UInt32).toNat:Int))=((x.toNat+1:Nat):Int) by rw[show((1:UInt32).toNat:Int)=1 from rfl];omega,Nu (by omega)]
def Z5:AR:=[48,48,48,49,48,50,48,51,48,52,48,53,48,54,48,55,48,56,48,57,49,48,49,49,49,50,49,51,49,52,49,53,49,54,49,55,49,56,49,57,50,48,50,49,50,50,50,51,50,52,50,53,50,54,50,55,50,56,50,57,51,48,51,49,51,50,51,51,51,52,51,53,51,54,51,55,51,56,51,57,52,48,52,49,52,50,52,51,52,52,52,53,52,54,52,55,52,56,52,57,53,48,53,49,53,50,53,51,53,52,53,53,53,54,53,55,53,56,53,57,54,48,54,49,54,50,54,51,54,52,54,53,54,54,54,55,54,56,54,57,55,48,55,49,55,50,55,51,55,52,55,53,55,54,55,55,55,56,55,57,56,48,56,49,56,50,56,51,56,52,56,53,56,54,56,55,56,56,56,57,57,48,57,49,57,50,57,51,57,52,57,53,57,54,57,55,57,56,57,57]
theorem iW: ∀k:Fin 100,Z5[2*k.1+1]? =some (UInt8.ofNat (48+k.1%10))∧Z5[2*k.1]? =some (UInt8.ofNat (48+k.1/10)):=by decide+kernel
def XH(A:Ar UInt8 24)(o k:Nat):Ar UInt8 24:=(A.set (o+1) (UInt8.ofNat (48+k%10))).set o (UInt8.ofNat (48+k/10))
theorem N7{N i o k:Nat}{A:Ar UInt8 24}{x:UInt32}{c d:Int}{γ:Type}{K:Ar UInt8 24→Option γ}(hN:N≤24)(hi:i≤N)(hx:x.toNat=2*k)(hk:k<100)(hc:(i:Int)-c=((o+1:Nat):Int))(hd:(i:Int)-d=(o:Nat))(ho:o+1<N):
  ((Hb Z5 ((Dt ((x.toNat:Int)+((1:UInt32).toNat:Int))).toNat:Int)).bind fun y=>(Hb Z5 (x.toNat:Int)).bind fun z=>
   (if 0+N*1≤24 then Dl N (IntKind.i64.wrap ((i:Int)-c))else none).bind fun p=>(if p<24 then some (A.set p y)else none).bind fun B=>
   (if 0+N*1≤24 then Dl N (IntKind.i64.wrap ((i:Int)-d))else none).bind fun q=>(if q<24 then some (B.set q z)else none).bind K)=K (XH A o k):=by
 obtain⟨g1,g2⟩:=iW ⟨k,hk⟩
 rw[inc32 x (by omega),hx,DH,DH,g1,g2,hc,hd,BF (by omega),BF (by omega),if_pos (by omega),if_pos (by omega),CN (by omega),CN (by omega)]
 simp only[Option.bind_some]
 rw[if_pos (by omega)]
 simp only[Option.bind_some]
 rw[if_pos (by omega)]
 rfl
def UZ(N a i u:Nat)(A:Ar UInt8 24):Prop:=i≤N∧u<10^i∧sW N a=sW i u++(A.l.take N).drop i
theorem setTwo{l:List UInt8}{N o:Nat}{x y:UInt8}(h:o+1<N)(hl:N≤l.length):(((l.set (o+1) y).set o x).take N).drop o=x::y::(l.take N).drop (o+2):=by
 apply List.ext_getElem?
 intro j
 rw[List.getElem?_drop,List.getElem?_take,List.getElem?_set,List.getElem?_set]
 match j with
 |0=>simp;omega
 |1=>simp;omega
 |j+2=>
  simp only[List.getElem?_cons_succ,List.getElem?_drop,List.getElem?_take]
  rw[if_neg (show¬o=o+(j+2) by omega),if_neg (show¬o+1=o+(j+2) by omega),show o+(j+2)=o+2+j by omega]
theorem UZ.two{N a i u o k:Nat}{A:Ar UInt8 24}(h:UZ N a i u A)(hN:N≤24)(ho:i=o+2)(hk:k=u%100):UZ N a o (u/100) (XH A o k):=by
 obtain⟨h1,h2,h3⟩:=h
 subst ho hk
 refine⟨by omega,?_,?_⟩
 ·rw[Nat.div_lt_iff_lt_mul (by decide)]
  rw[show 10^o*100=10^(o+2) by rw[Nat.pow_succ,Nat.pow_succ,Nat.mul_assoc]]
  exact h2
 ·have hs:((XH A o (u%100)).l.take N).drop o=UInt8.ofNat (48+u%100/10)::UInt8.ofNat (48+u%100%10)::(A.l.take N).drop (o+2):=setTwo (by omega) (by rw[A.len];exact hN)
  rw[hs,h3]
  simp only[sW,List.append_assoc,List.cons_append,List.nil_append]
  rw[show u/10/10=u/100 by omega,show u/10%10=u%100/10 by omega,show u%10=u%100%10 by omega]
theorem UZ.one{N a i u:Nat}{A:Ar UInt8 24}(h:UZ N a i u A)(hN:N≤24)(hi:i=1):UZ N a 0 0 (A.set 0 (UInt8.ofNat (48+u))):=by
 obtain⟨h1,h2,h3⟩:=h
 subst hi
 have hu:u<10:=by simpa using h2
 refine⟨by omega,by simp,?_⟩
 rw[h3]
 have:(A.set 0 (UInt8.ofNat (48+u))).l=A.l.set 0 (UInt8.ofNat (48+u)):=rfl
 rw[this]
 cases hA:A.l with
 |nil=>have:=A.len;rw[hA]at this;simp at this
 |cons y l=>
  match N,h1 with
  |N+1,_=>simp[sW,Nat.mod_eq_of_lt hu]
theorem shr64(x c:UInt64)(hc:c.toNat<64): ∃y:UInt64,(if(c.toNat:Int)<0 then none else some (DA (Int.fdiv (x.toNat:Int) (2^(min ((c.toNat:Int).toNat) 64)))))=some y∧y.toNat=x.toNat/2^c.toNat:=by
 refine⟨_,if_neg (by omega),?_⟩
 rw[Int.toNat_natCast,Nat.min_eq_left (by omega),show(2:Int)^c.toNat=((2^c.toNat:Nat):Int) by push_cast;rfl,←Int.ofNat_fdiv,Kb]
 exact Nat.lt_of_le_of_lt (Nat.div_le_self _ _) (by have:=x.toNat_lt;omega)
theorem Zz{γ:Type}{x c b:UInt64}{n:Nat}{d e:Int}{K:UInt64×Int→Option γ}{r:Option γ}(hb:b.toNat=2^c.toNat)(hc:c.toNat<64)(hd:d=(n:Nat))(he:e=((n+c.toNat:Nat):Int))
  (hK: ∀(y:UInt64) (k:Nat),k≤c.toNat→y.toNat=x.toNat/2^k→(1≤x.toNat→1≤y.toNat)→(x.toNat<2^c.toNat*2^c.toNat→y.toNat<2^c.toNat)→K (y,((n+k:Nat):Int))=r):
  ((if(decide ((b.toNat:Int)≤(x.toNat:Int)))=true then
   (if(c.toNat:Int)<0 then none else some (DA (Int.fdiv (x.toNat:Int) (2^(min ((c.toNat:Int).toNat) 64))))).bind fun z=>some (.inl (z,e))
   else some (.inl (x,d)):Option ((UInt64×Int)⊕γ)).bind (Sum.elim K some))=r:=by
 by_cases h:b.toNat≤x.toNat
 ·rw[if_pos (by simpa using h)]
  obtain⟨y,e1,e2⟩:=shr64 x c hc
  rw[e1,he]
  refine hK y c.toNat (Nat.le_refl _) e2 (fun _=> ?_) (fun h2=> ?_)
  ·rw[e2,Nat.le_div_iff_mul_le (Nat.pow_pos (by decide)),Nat.one_mul,←hb];exact h
  ·rw[e2];exact(Nat.div_lt_iff_lt_mul (Nat.pow_pos (by decide))).2 h2
 ·rw[if_neg (by simpa using h),hd]
  exact hK x 0 (Nat.zero_le _) (by simp) id (fun _=>by omega)
def len8:AR:=[0,1,2,2,3,3,3,3,4,4,4,4,4,4,4,4,5,5,5,5,5,5,5,5,5,5,5,5,5,5,5,5]++List.replicate 32 6++List.replicate 64 7++List.replicate 128 8
theorem uV: ∀v:Fin 256,∃t,len8[v.1]? =some t∧(1≤v.1→v.1<2^t.toNat∧2^(t.toNat-1)≤v.1∧1≤t.toNat∧t.toNat≤8):=by
 have key: ∀v:Fin 256,(match len8[v.1]? with|some t=>decide (1≤v.1→v.1<2^t.toNat∧2^(t.toNat-1)≤v.1∧1≤t.toNat∧t.toNat≤8)|none=>false)=true:=by decide+kernel
 intro v
 have:=key v
 split at this
 ·rename_i t e;exact⟨t,e,of_decide_eq_true this⟩
 ·cases this
set_option maxRecDepth 20000 in
theorem pW(a:UInt64)(h:1≤a.toNat): ∃L:Nat,Ha a=some (L:Int)∧1≤L∧L≤64∧a.toNat<2^L∧2^(L-1)≤a.toNat:=by
 have ha:=a.toNat_lt
 have key: ∀r,(∀L:Nat,1≤L→L≤64→a.toNat<2^L→2^(L-1)≤a.toNat→r=some (L:Int))→Ha a=r:=by
  intro r hr
  unfold Ha
  refine Zz (n:=0) (c:=32) (b:=4294967296) rfl (by decide) rfl rfl fun y1 k1 g1 e1 p1 q1=> ?_
  refine Zz (n:=0+k1) (c:=16) (b:=65536) rfl (by decide) rfl (by rw[show(16:UInt64).toNat=16 from rfl,show(32:UInt64).toNat=32 from rfl]at*;rw[cL (by omega) (by omega)];push_cast;rfl) fun y2 k2 g2 e2 p2 q2=> ?_
  refine Zz (n:=0+k1+k2) (c:=8) (b:=256) rfl (by decide) rfl (by rw[show(8:UInt64).toNat=8 from rfl,show(16:UInt64).toNat=16 from rfl,show(32:UInt64).toNat=32 from rfl]at*;rw[cL (by omega) (by omega)];push_cast;rfl) fun y3 k3 g3 e3 p3 q3=> ?_
  rw[show(8:UInt64).toNat=8 from rfl]at g3 q3
  rw[show(16:UInt64).toNat=16 from rfl]at g2 q2
  rw[show(32:UInt64).toNat=32 from rfl]at g1 q1
  have b3:y3.toNat<2^8:=q3 (q2 (q1 (by simpa using ha)))
  have hy3:1≤y3.toNat:=p3 (p2 (p1 h))
  have hv:y3.toNat=a.toNat/2^(k1+k2+k3):=by rw[e3,e2,e1,Nat.div_div_eq_div_mul,Nat.div_div_eq_div_mul,←Nat.pow_add,←Nat.pow_add,Nat.add_assoc]
  obtain⟨t,ht,h1⟩:=uV ⟨y3.toNat,b3⟩
  dsimp only at ht h1
  obtain⟨h2,h3,h4,h5⟩:=h1 hy3
  have hu8:((MB (y3.toNat:Int)).toNat:Int)=(y3.toNat:Int):=by
   show((UInt8.ofNat ((y3.toNat:Int)%256).toNat).toNat:Int)=_
   rw[show((y3.toNat:Int)%256).toNat=y3.toNat by omega,UInt8.toNat_ofNat']
   omega
  dsimp only
  rw[hu8]
  show(Hb len8 (y3.toNat:Int)).bind _=r
  rw[DH,ht]
  simp only[Option.bind_some]
  rw[BF (by omega),cL (by omega) (by omega),show((0+k1+k2+k3:Nat):Int)+(t.toNat:Int)=((k1+k2+k3+t.toNat:Nat):Int) by omega]
  rw[hv]at h2 h3
  refine(hr _ (by omega) (by omega) ?_ ?_).symm
  ·rw[Nat.div_lt_iff_lt_mul (Nat.pow_pos (by decide)),←Nat.pow_add,Nat.add_comm]at h2
   exact h2
  ·rw[Nat.le_div_iff_mul_le (Nat.pow_pos (by decide)),←Nat.pow_add]at h3
   rw[show k1+k2+k3+t.toNat-1=t.toNat-1+(k1+k2+k3) by omega]
   exact h3
 have hex: ∃L:Nat,1≤L∧L≤64∧a.toNat<2^L∧2^(L-1)≤a.toNat:=by
  refine⟨a.toNat.log2+1,by omega,?_,Nat.lt_log2_self,Nat.log2_self_le (by omega)⟩
  have:=(Nat.log2_lt (by omega:a.toNat≠0) (k:=64)).2 (by simpa using ha)
  omega
 obtain⟨L,l1,l2,l3,l4⟩:=hex
 refine⟨L,key _ fun M m1 m2 m3 m4=> ?_,l1,l2,l3,l4⟩
 have hLM: ∀{A B:Nat},a.toNat<2^A→2^(B-1)≤a.toNat→B≤A:=fun{A B} x y=>by
  have:2^(B-1)<2^A:=Nat.lt_of_le_of_lt y x
  have:=(Nat.pow_lt_pow_iff_right (by decide:1<2)).1 this
  omega
 have:L=M:=Nat.le_antisymm (hLM m3 l4) (hLM l3 m4)
 rw[this]
theorem zY: ∀L:Fin 65,∃p:UInt64,kQ.l[L.1*78913/262144]? =some p∧p.toNat=10^(L.1*78913/262144)∧(1≤L.1→2^L.1≤10^(L.1*78913/262144+1)∧10^(L.1*78913/262144-1)≤2^(L.1-1))∧L.1*78913/262144≤19:=by
 have key: ∀L:Fin 65,(match kQ.l[L.1*78913/262144]? with|some p=>decide (p.toNat=10^(L.1*78913/262144)∧(1≤L.1→2^L.1≤10^(L.1*78913/262144+1)∧10^(L.1*78913/262144-1)≤2^(L.1-1))∧L.1*78913/262144≤19)|none=>false)=true:=by decide+kernel
 intro L
 have:=key L
 split at this
 ·rename_i p e;exact⟨p,e,of_decide_eq_true this⟩
 ·cases this
theorem XJ(a:UInt64)(h:100≤a.toNat): ∃N:Nat,DQ a=some ((N+1:Nat):Int)∧N<20∧10^N≤a.toNat∧a.toNat<10^(N+1):=by
 obtain⟨L,e1,l1,l2,l3,l4⟩:=pW a (by omega)
 obtain⟨p,e2,e3,e4,e5⟩:=zY ⟨L,by omega⟩
 obtain⟨e4,e6⟩:=e4 l1
 dsimp only at e2 e3 e4 e5 e6
 have hl:DR (L:Int)=some ((L*78913/262144:Nat):Int):=by
  unfold DR
  rw[if_neg (by decide),show((L:Int)*78913)=((L*78913:Nat):Int) by omega,BF (by omega),show((2:Int)^(min ((18:UInt64).toNat:Int).toNat 64))=((262144:Nat):Int) by rfl,←Int.ofNat_fdiv]
  rfl
 generalize L*78913/262144=k at*
 unfold DQ
 simp only[e1,hl,Option.bind_some,DH,e2,Fk,e3]
 by_cases hp:10^k≤a.toNat
 ·rw[if_pos (decide_eq_true (Int.ofNat_le.2 hp))]
  refine⟨k,?_,by omega,hp,Nat.lt_of_lt_of_le l3 e4⟩
  simp only[Option.bind_some]
  rw[show((k:Nat):Int)+1=((k+1:Nat):Int) by omega,BF (by omega)]
 ·rw[if_neg (by rw[decide_eq_true_eq];exact fun h=>hp (Int.ofNat_le.1 h))]
  have hpos:1≤k:=by
   rcases Nat.eq_zero_or_pos k with h0|h0
   ·rw[h0]at hp;simp at hp;omega
   ·exact h0
  refine⟨k-1,?_,by omega,Nat.le_trans e6 l4,?_⟩
  ·simp only[Option.bind_some]
   rw[show((k:Nat):Int)+0=((k-1+1:Nat):Int) by omega,BF (by omega)]
  ·rw[show k-1+1=k by omega];omega
theorem lW{n m:Nat}(h:m≤n):((PW n none (some (m:Int))).map fun p=>p.2)=some m:=by
 simp[PW,h]
theorem oI{α β:Type}{x:Option α}{K:α→Option β}{r:Option β}(Q:α→Prop)(h: ∃b,x=some b∧Q b)(k: ∀b,Q b→K b=r):x.bind K=r:=by
 obtain⟨b,rfl,hb⟩:=h;exact k b hb
theorem bU{α β:Type}{x:Option α}{K:α→Option β}{Q:β→Prop}(R:α→Prop)(h: ∃b,x=some b∧R b)(k: ∀b,R b→ ∃c,K b=some c∧Q c): ∃c,x.bind K=some c∧Q c:=by
 obtain⟨b,rfl,hb⟩:=h;exact k b hb
theorem aL{σ β γ:Type}{F:σ→Option (σ⊕β)}{K:β→Option γ}{Q':γ→Prop}{s:σ}(m:σ→Nat)(I:σ→Prop)(Q:β→Prop)(h:I s)
  (step: ∀s,I s→(∃s',F s=some (.inl s')∧I s'∧m s'<m s)∨ ∃b,F s=some (.inr b)∧Q b) (fin: ∀b,Q b→ ∃c,K b=some c∧Q' c): ∃c,(iter F s).bind K=some c∧Q' c:=
 bU Q (RR m I Q step h) fin
theorem UZ.end{N a u:Nat}{A:Ar UInt8 24}(h:UZ N a 0 u A):A.l.take N=sW N a:=by
 have:=h.2.2
 simp[sW]at this
 exact this.symm
theorem sV{i u:Nat}(h:u<10^i)(hi:i<9):u<4294967296:=Nat.lt_trans h (Nat.lt_of_le_of_lt (Nat.pow_le_pow_right (by decide) (show i≤8 by omega)) (by decide))
set_option maxHeartbeats 4000000 in
set_option maxRecDepth 20000 in
theorem kU(a:UInt64)(h:100≤a.toNat):Cu a 10=some (DP a.toNat):=by
 have halt:=a.toNat_lt
 obtain⟨M,e1,hM,l1,l2⟩:=XJ a h
 have hM1:1≤M:=by
  rcases Nat.eq_zero_or_pos M with h0|h0
  ·subst h0;simp at l2;omega
  ·exact h0
 have hdig:DP a.toNat=sW (M+1) a.toNat:=gV M 20 a.toNat (by omega) l2 (.inr l1)
 generalize hN:M+1=N at*
 unfold Cu
 rw[if_pos (by decide)]
 dsimp only
 rw[if_neg (by rw[decide_eq_true_eq,show((100:UInt64).toNat:Int)=100 from rfl];omega),e1,Option.bind_some,lW (by omega),Option.bind_some]
 have e100:(100:UInt32).toNat=100:=rfl
 have e10k:(10000:UInt32).toNat=10000:=rfl
 have e100m:(100000000:UInt64).toNat=100000000:=rfl
 refine oI (fun A:Ar UInt8 24=>A.l.take N=sW N a.toNat) ?_ fun A hA=>by
  rw[Option.bind_some]
  simp only[vT]
  rw[if_pos (by omega)]
  simp only[Option.bind_some,List.drop_zero,Lx,hA,hdig]
 refine aL (fun s=>s.2.1.toNat) (fun s:UInt64×Int×Ar UInt8 24=> ∃i:Nat,s.2.1=i∧UZ N a.toNat i s.1.toNat s.2.2)
  (fun r=> ∃(i:Nat) (u:UInt64) (A:Ar UInt8 24),r= .inl (u,(i:Int),A)∧i<8∧UZ N a.toNat i u.toNat A) ⟨N,rfl,Nat.le_refl _,l2,by
   rw[List.drop_of_length_le (by rw[List.length_take];omega),List.append_nil]⟩ ?_ ?_
 ·rintro⟨u,s,A⟩ ⟨i,rfl,hd⟩
  dsimp only at hd ⊢
  have hiN:=hd.1
  by_cases hi:8≤i
  ·left
   rw[if_pos (by rw[decide_eq_true_eq];omega)]
   obtain⟨x13,f13,v13⟩:=mod64 u 100000000 (by decide)
   obtain⟨x15,f15,v15⟩:=div64 u 100000000 (by decide)
   rw[f13,f15,Option.bind_some,Option.bind_some]
   rw[e100m]at v13 v15
   have b13:x13.toNat<4294967296:=by omega
   have w13:=Nu b13
   obtain⟨x16,f16,v16⟩:=YY (Dt (x13.toNat:Int)) 10000 (by decide)
   obtain⟨x17,f17,v17⟩:=YK (Dt (x13.toNat:Int)) 10000 (by decide)
   rw[f16,f17,Option.bind_some,Option.bind_some]
   rw[w13,e10k,v13]at v16 v17
   obtain⟨x18,f18,v18⟩:=YY x17 100 (by decide)
   obtain⟨x20,f20,v20⟩:=YK x17 100 (by decide)
   obtain⟨x22,f22,v22⟩:=YY x16 100 (by decide)
   obtain⟨x24,f24,v24⟩:=YK x16 100 (by decide)
   rw[f18,f20,f22,f24,Option.bind_some,Option.bind_some,Option.bind_some,Option.bind_some]
   rw[e100,v17]at v18 v20
   rw[e100,v16]at v22 v24
   refine⟨(x15,((i-8:Nat):Int),XH (XH (XH (XH A (i-2) (u.toNat%100)) (i-4) (u.toNat/100%100)) (i-6) (u.toNat/100/100%100)) (i-8) (u.toNat/100/100/100%100)),?_,⟨i-8,rfl,?_⟩,by dsimp only;omega⟩
   ·refine(N7 (N:=N) (i:=i) (o:=i-2) (k:=u.toNat%100) (by omega) hiN (by rw[Xa _ (by omega)];omega) (by omega) (by omega) (by omega) (by omega)).trans ?_
    refine(N7 (N:=N) (i:=i) (o:=i-4) (k:=u.toNat/100%100) (by omega) hiN (by rw[Xa _ (by omega)];omega) (by omega) (by omega) (by omega) (by omega)).trans ?_
    refine(N7 (N:=N) (i:=i) (o:=i-6) (k:=u.toNat/100/100%100) (by omega) hiN (by rw[Xa _ (by omega)];omega) (by omega) (by omega) (by omega) (by omega)).trans ?_
    refine(N7 (N:=N) (i:=i) (o:=i-8) (k:=u.toNat/100/100/100%100) (by omega) hiN (by rw[Xa _ (by omega)];omega) (by omega) (by omega) (by omega) (by omega)).trans ?_
    rw[show((i:Nat):Int)-8=((i-8:Nat):Int) by omega,BF (by omega)]
   ·rw[show x15.toNat=u.toNat/100/100/100/100 by omega]
    exact(((hd.two (by omega) (by omega) rfl).two (i:=i-2) (o:=i-4) (by omega) (by omega) rfl).two (i:=i-4) (o:=i-6) (by omega) (by omega) rfl).two (i:=i-6) (o:=i-8) (by omega) (by omega) rfl
  ·right
   rw[if_neg (by rw[decide_eq_true_eq];omega)]
   exact⟨_,rfl,i,u,A,rfl,by omega,hd⟩
 ·rintro _ ⟨i,u,A,rfl,hi,hd⟩
  have hiN:=hd.1
  have hu32:=sV hd.2.1 (by omega)
  have wu:=Nu hu32
  refine bU (fun r=> ∃(i:Nat) (w:UInt32) (A:Ar UInt8 24),r= .inl ((i:Int),w,A)∧i<4∧UZ N a.toNat i w.toNat A) ?_ ?_
  ·dsimp only
   by_cases h4:4≤i
   ·rw[if_pos (by rw[decide_eq_true_eq];omega)]
    obtain⟨x88,f88,v88⟩:=YK (Dt (u.toNat:Int)) 10000 (by decide)
    obtain⟨x89,f89,v89⟩:=YY (Dt (u.toNat:Int)) 10000 (by decide)
    rw[f88,f89,Option.bind_some,Option.bind_some]
    rw[wu,e10k]at v88 v89
    obtain⟨x90,f90,v90⟩:=YY x88 100 (by decide)
    obtain⟨x92,f92,v92⟩:=YK x88 100 (by decide)
    rw[f90,f92,Option.bind_some,Option.bind_some]
    rw[e100,v88]at v90 v92
    refine⟨.inl (((i-4:Nat):Int),x89,XH (XH A (i-2) (u.toNat%100)) (i-4) (u.toNat/100%100)),?_,i-4,_,_,rfl,by omega,?_⟩
    ·refine(N7 (N:=N) (i:=i) (o:=i-2) (k:=u.toNat%100) (by omega) hiN (by rw[Xa _ (by omega)];omega) (by omega) (by omega) (by omega) (by omega)).trans ?_
     refine(N7 (N:=N) (i:=i) (o:=i-4) (k:=u.toNat/100%100) (by omega) hiN (by rw[Xa _ (by omega)];omega) (by omega) (by omega) (by omega) (by omega)).trans ?_
     rw[show((i:Nat):Int)-4=((i-4:Nat):Int) by omega,BF (by omega)]
    ·rw[show x89.toNat=u.toNat/100/100 by omega]
     exact(hd.two (by omega) (by omega) rfl).two (i:=i-2) (o:=i-4) (by omega) (by omega) rfl
   ·rw[if_neg (by rw[decide_eq_true_eq];omega)]
    exact⟨_,rfl,i,_,A,rfl,by omega,by rw[wu];exact hd⟩
  ·rintro _ ⟨i,w,A,rfl,hi,hd⟩
   have hiN:=hd.1
   refine bU (fun r=> ∃(i:Nat) (w:UInt32) (A:Ar UInt8 24),r= .inl ((i:Int),w,A)∧i<2∧UZ N a.toNat i w.toNat A) ?_ ?_
   ·dsimp only
    by_cases h2:2≤i
    ·rw[if_pos (by rw[decide_eq_true_eq];omega)]
     obtain⟨x75,f75,v75⟩:=YK w 100 (by decide)
     obtain⟨x77,f77,v77⟩:=YY w 100 (by decide)
     rw[f75,f77,Option.bind_some,Option.bind_some]
     rw[e100]at v75 v77
     refine⟨.inl (((i-2:Nat):Int),x77,XH A (i-2) (w.toNat%100)),?_,i-2,_,_,rfl,by omega,?_⟩
     ·refine(N7 (N:=N) (i:=i) (o:=i-2) (k:=w.toNat%100) (by omega) hiN (by rw[Xa _ (by omega)];omega) (by omega) (by omega) (by omega) (by omega)).trans ?_
      rw[show((i:Nat):Int)-2=((i-2:Nat):Int) by omega,BF (by omega)]
     ·rw[v77]
      exact hd.two (by omega) (by omega) rfl
    ·rw[if_neg (by rw[decide_eq_true_eq];omega)]
     exact⟨_,rfl,i,_,A,rfl,by omega,hd⟩
   ·rintro _ ⟨i,w,A,rfl,hi,hd⟩
    have hiN:=hd.1
    dsimp only[Sum.elim_inl]
    by_cases h1:0<i
    ·have hi1:i=1:=by omega
     subst hi1
     have hw:w.toNat<10:=by simpa using hd.2.1
     rw[if_pos (by rw[decide_eq_true_eq];omega),if_pos (by omega),show(0:Int)=((0:Nat):Int)from rfl,CN (by omega),Option.bind_some,if_pos (by omega),Option.bind_some]
     refine⟨_,rfl,?_⟩
     have hb:MB ((Dt (((48:UInt32).toNat:Int)+(w.toNat:Int))).toNat:Int)=UInt8.ofNat (48+w.toNat):=by
      rw[show(((48:UInt32).toNat:Int)+(w.toNat:Int))=((48+w.toNat:Nat):Int) by rw[show((48:UInt32).toNat:Int)=48 from rfl];omega,Nu (by omega)]
      exact u8_of (by omega)
     rw[hb]
     exact(hd.one (by omega) rfl).end
    ·obtain rfl:i=0:=by omega
     rw[if_neg (by rw[decide_eq_true_eq];omega)]
     exact⟨_,rfl,hd.end⟩
theorem oV: ∀n:Fin 100,GI (n.1:Int)=some (DP n.1):=by decide+kernel
theorem NO(a:UInt64):FK a=some (DP a.toNat):=by
 have:Cu a 10=some (DP a.toNat):=by
  by_cases h:100≤a.toNat
  ·exact kU a h
  ·unfold Cu
   rw[if_pos (by decide)]
   dsimp only
   rw[if_pos (by rw[decide_eq_true_eq,show((100:UInt64).toNat:Int)=100 from rfl];omega),BF (by omega),oV ⟨a.toNat,by omega⟩]
   rfl
 unfold FK I4
 rw[this];rfl
end Go.Proofs.YtobejhpigbllpaaGreatDoor.Am
namespace Go.Proofs.YtobejhpigbllpaaGreatDoor.Am
def BO(sep:AR):List AR→AR
 |[]=>[]
 |[x]=>x
 |x::y::r=>x++sep++BO sep (y::r)
theorem NI(sep:AR): ∀(l:List AR) (x:AR),l≠[]→BO sep (l++[x])=BO sep l++sep++x
 |[],_,h=>absurd rfl h
 |[y],x,_=>rfl
 |y::z::r,x,_=>by
  have:=NI sep (z::r) x (by simp)
  simp only[List.cons_append,BO]at this ⊢
  rw[this];simp
def Lc(l:List AR):Nat:=(l.map List.length).sum
theorem Y1{l:List AR}{i:Nat}(h:i<l.length):Lc (l.take (i+1))=Lc (l.take i)+l[i].length:=by
 unfold Lc;rw[List.take_succ_eq_append_getElem h,List.map_append,List.sum_append,List.map_singleton,List.sum_singleton]
theorem Es(sep:AR): ∀l:List AR,(BO sep l).length=sep.length*(l.length-1)+Lc l
 |[]=>by simp[BO,Lc]
 |[x]=>by simp[BO,Lc]
 |x::y::r=>by
  have:=Es sep (y::r)
  simp only[BO,List.length_append,this,Lc,List.map_cons,List.sum_cons,List.length_cons,Nat.add_sub_cancel,Nat.mul_add,Nat.mul_one]
  omega
theorem S8(l:List AR)(i:Nat):Lc (l.take i)≤Lc l:=by
 conv=>rhs;rw[←List.take_append_drop i l]
 unfold Lc;rw[List.map_append,List.sum_append];omega
theorem W4(sep:AR)(l:List AR)(i:Nat):(BO sep (l.take i)).length≤(BO sep l).length:=by
 rw[Es,Es]
 have h1:=S8 l i
 have h2:sep.length*((l.take i).length-1)≤sep.length*(l.length-1):=Nat.mul_le_mul_left _ (by rw[List.length_take];omega)
 omega
theorem Ph(g:GS AR)(sep:AR)(hl:g.l.length<1000000)(hs:sep.length<1000)(h:(BO sep g.l).length<1000000000):CA g sep=some (BO sep g.l):=by
 unfold CA
 have hjl:=Es sep g.l
 by_cases h0:g.l.length=0
 ·rw[if_pos (by rw[decide_eq_true_eq,h0];rfl),List.eq_nil_of_length_eq_zero h0];rfl
 rw[if_neg (by rw[decide_eq_true_eq];omega)]
 by_cases h1:g.l.length=1
 ·rw[if_pos (by rw[decide_eq_true_eq,h1];rfl)]
  obtain⟨x,hx⟩:=List.length_eq_one_iff.1 h1
  rw[hx];rfl
 rw[if_neg (by rw[decide_eq_true_eq];omega)]
 have hw:IntKind.i64.wrap ((g.l.length:Int)-1)=((g.l.length-1:Nat):Int):=by
  rw[show(g.l.length:Int)-1=((g.l.length-1:Nat):Int) by omega,BF (by omega)]
 have hprod:sep.length*(g.l.length-1)<1000000000:=by omega
 refine oI (fun r=>r= .inl ((sep.length*(g.l.length-1):Nat):Int)) ?_ ?_
 ·by_cases hs0:0<sep.length
  ·rw[if_pos (by rw[decide_eq_true_eq];omega)]
   simp only[hw]
   rw[if_neg (by omega)]
   have hq:IntKind.i64.wrap (Int.tdiv 9223372036854775807 ((g.l.length-1:Nat):Int))=((9223372036854775807/(g.l.length-1):Nat):Int):=by
    rw[show(9223372036854775807:Int)=((9223372036854775807:Nat):Int)from rfl,←Int.ofNat_tdiv,BF (Nat.lt_of_le_of_lt (Nat.div_le_self _ _) (by decide))]
   rw[hq,Option.bind_some,if_neg (by
    rw[decide_eq_true_eq,Int.ofNat_le]
    have:1000000≤9223372036854775807/(g.l.length-1):=(Nat.le_div_iff_mul_le (by omega)).2 (by omega)
    omega)]
   have e1:IntKind.i64.wrap ((sep.length:Int)*((g.l.length-1:Nat):Int))=((sep.length*(g.l.length-1):Nat):Int):=by
    rw[←Int.natCast_mul,BF (by omega)]
   rw[e1,Int.zero_add,BF (by omega)]
   exact⟨_,rfl,rfl⟩
  ·rw[if_neg (by rw[decide_eq_true_eq];omega)]
   have:sep.length=0:=by omega
   exact⟨_,rfl,by rw[this,Nat.zero_mul];rfl⟩
 ·rintro _ rfl
  dsimp only[Sum.elim_inl]
  refine EE (fun s=>g.l.length-s.2.toNat) (fun s=> ∃i:Nat,s.2=i∧i≤g.l.length∧s.1=((sep.length*(g.l.length-1)+Lc (g.l.take i):Nat):Int)) (fun r=>r= .inl ((BO sep g.l).length:Int)) ⟨0,rfl,by omega,by simp[Lc]⟩ ?_ ?_
  ·rintro⟨n,s⟩ ⟨i,rfl,hi,rfl⟩
   dsimp only
   have hm:=S8 g.l i
   by_cases hlt:i<g.l.length
   ·left
    have hm1:=S8 g.l (i+1)
    rw[Y1 hlt]at hm1
    rw[if_pos (by rw[decide_eq_true_eq];omega),DH,List.getElem?_eq_getElem hlt,Option.bind_some]
    rw[if_neg (by rw[decide_eq_true_eq,cL (by omega) (by omega)];omega)]
    refine⟨_,rfl,⟨i+1,?_,by omega,?_⟩,?_⟩
    ·dsimp only;rw[show(i:Int)+1=((i+1:Nat):Int) by omega,BF (by omega)]
    ·dsimp only
     rw[Y1 hlt,←Int.natCast_add,BF (by omega),Nat.add_assoc]
    ·dsimp only;rw[show(i:Int)+1=((i+1:Nat):Int) by omega,BF (by omega)];omega
   ·right
    rw[if_neg (by rw[decide_eq_true_eq];omega)]
    exact⟨_,rfl,by rw[List.take_of_length_le (by omega),hjl]⟩
  ·rintro _ rfl
   dsimp only[Sum.elim_inl]
   have hg1:fJ [] ((BO sep g.l).length:Int)=some []:=by
    unfold fJ;rw[if_pos ⟨rfl,by omega,by unfold B4;omega⟩]
   cases hgl:g with
   |nil=>rw[hgl]at h0;simp at h0
   |mk l=>
    subst hgl
    simp only[Lx]at*
    cases l with
    |nil=>simp at h0
    |cons x r=>
     have hx:x.length≤(BO sep (x::r)).length:=by
      have:=W4 sep (x::r) 1
      simpa [BO]using this
     rw[hg1,Option.bind_some,show(0:Int)=((0:Nat):Int)from rfl,DH]
     simp only[List.getElem?_cons_zero,Option.bind_some]
     have hb:Ol [] x=some x:=by unfold Ol;rw[if_pos (by simp;unfold B4;omega)];rfl
     obtain⟨g2,hsl,hg2⟩: ∃g2:GS AR,slG (.mk (x::r)) (some 1) none=some g2∧g2.l=r:=⟨.mk r,rW (n:=1) (by simp),rfl⟩
     subst hg2
     rw[hb,Option.bind_some,hsl,Option.bind_some]
     refine EE (fun s=>g2.l.length-s.1.toNat) (fun s=> ∃i:Nat,s.1=i∧i≤g2.l.length∧s.2=BO sep ((x::g2.l).take (i+1))) (fun b=>b= .inl (BO sep (x::g2.l))) ⟨0,rfl,by omega,rfl⟩ ?_ ?_
     ·rintro⟨s,t⟩ ⟨i,rfl,hi,rfl⟩
      dsimp only
      by_cases hlt:i<g2.l.length
      ·left
       have hj2:=W4 sep (x::g2.l) (i+1+1)
       have hsn:BO sep ((x::g2.l).take (i+1+1))=BO sep ((x::g2.l).take (i+1))++sep++g2.l[i]:=by
        rw[List.take_succ_eq_append_getElem (show i+1<(x::g2.l).length by simpa using hlt),NI sep _ _ (by simp)]
        rfl
       have hj3:=hj2
       rw[hsn,List.length_append,List.length_append]at hj3
       rw[if_pos (by rw[decide_eq_true_eq];omega),DH,List.getElem?_eq_getElem hlt,Option.bind_some]
       have b1:Ol (BO sep ((x::g2.l).take (i+1))) sep=some (BO sep ((x::g2.l).take (i+1))++sep):=by unfold Ol;rw[if_pos (by unfold B4;omega)]
       have b2:Ol (BO sep ((x::g2.l).take (i+1))++sep) g2.l[i]=some (BO sep ((x::g2.l).take (i+1))++sep++g2.l[i]):=by unfold Ol;rw[if_pos (by rw[List.length_append];unfold B4;omega)]
       rw[b1,Option.bind_some,b2,Option.bind_some]
       refine⟨_,rfl,⟨i+1,?_,by omega,hsn.symm⟩,?_⟩
       ·dsimp only;rw[show(i:Int)+1=((i+1:Nat):Int) by omega,BF (by simp at hl;omega)]
       ·dsimp only;rw[show(i:Int)+1=((i+1:Nat):Int) by omega,BF (by simp at hl;omega)];omega
      ·right
       rw[if_neg (by rw[decide_eq_true_eq];omega)]
       exact⟨_,rfl,by rw[List.take_of_length_le (by simp;omega)]⟩
     ·rintro _ rfl
      dsimp only[Sum.elim_inl]
      have hT:lY (decide (0<((BO sep (x::g2.l)).length:Int))) (BO sep (x::g2.l))=some (BO sep (x::g2.l)):=by
       unfold lY
       refine if_pos ⟨by unfold B4;omega,fun hp h0=> ?_⟩
       rw[decide_eq_true_eq,h0]at hp
       simp at hp
      exact congrArg (fun x:Option AR=>x.bind fun y=>some y) hT
def hd(k:Nat):UInt8:=if k<10 then UInt8.ofNat (48+k)else UInt8.ofNat (87+k)
def hexB(b:UInt8):AR:=[hd (b.toNat/16),hd (b.toNat%16)]
def Gr(l:List UInt8):AR:=l.flatMap hexB
theorem Ng(l:List UInt8):(Gr l).length=2*l.length:=by
 induction l with
 |nil=>rfl
 |cons b l ih=>simp only[Gr,List.flatMap_cons,List.length_append,List.length_cons]at ih ⊢;rw[ih];simp[hexB];omega
theorem YN{l:List UInt8}{i:Nat}(h:i<l.length):Gr (l.take (i+1))=Gr (l.take i)++[hd (l[i].toNat/16)]++[hd (l[i].toNat%16)]:=by
 rw[List.take_succ_eq_append_getElem h];simp only[Gr,List.flatMap_append,List.flatMap_cons,List.flatMap_nil,hexB,List.append_nil,List.append_assoc];rfl
def hdigs:AR:=[48,49,50,51,52,53,54,55,56,57,97,98,99,100,101,102]
theorem Tg: ∀k:Fin 16,hdigs[k.1]? =some (hd k.1):=by decide+kernel
theorem hi_val: ∀b:Fin 256,(if((4:UInt64).toNat:Int)<0 then none else some (MB (Int.fdiv ((UInt8.ofNat b.1).toNat:Int) (2^(min ((4:UInt64).toNat:Int).toNat 8)))))=some (UInt8.ofNat (b.1/16)):=by decide+kernel
theorem lo_val: ∀b:Fin 256,MB (Fy .and .u8 ((UInt8.ofNat b.1).toNat:Int) ((15:UInt8).toNat:Int))=UInt8.ofNat (b.1%16):=by decide+kernel
theorem nat8{k:Nat}(h:k<256):(UInt8.ofNat k).toNat=k:=by rw[UInt8.toNat_ofNat'];omega
theorem RS(g:GS UInt8)(h:g.l.length<1000000):Jg g=some (Gr g.l):=by
 unfold Jg
 refine EE (fun s=>g.l.length-s.1.toNat) (fun s=> ∃i:Nat,s.1=i∧i≤g.l.length∧s.2=Gr (g.l.take i)) (fun b=>b= .inl (Gr g.l)) ⟨0,rfl,by omega,rfl⟩ ?_ ?_
 ·rintro⟨s,t⟩ ⟨i,rfl,hi,rfl⟩
  dsimp only
  have hlen:=Ng (g.l.take i)
  rw[List.length_take]at hlen
  by_cases hlt:i<g.l.length
  ·left
   rw[if_pos (by rw[decide_eq_true_eq];omega),DH,List.getElem?_eq_getElem hlt,Option.bind_some]
   have hb:=g.l[i].toNat_lt
   have e1:=hi_val ⟨g.l[i].toNat,hb⟩
   have e2:=lo_val ⟨g.l[i].toNat,hb⟩
   simp only[K6]at e1 e2
   rw[e1,Option.bind_some]
   rw[e2,nat8 (by omega),nat8 (by omega),DH,DH]
   have d1:=Tg ⟨g.l[i].toNat/16,by omega⟩
   have d2:=Tg ⟨g.l[i].toNat%16,by omega⟩
   have b1:Ol (Gr (g.l.take i)) [hd (g.l[i].toNat/16)]=some (Gr (g.l.take i)++[hd (g.l[i].toNat/16)]):=by unfold Ol;rw[if_pos (by simp;unfold B4;omega)]
   have b2:Ol (Gr (g.l.take i)++[hd (g.l[i].toNat/16)]) [hd (g.l[i].toNat%16)]=some (Gr (g.l.take i)++[hd (g.l[i].toNat/16)]++[hd (g.l[i].toNat%16)]):=by unfold Ol;rw[if_pos (by simp;unfold B4;omega)]
   refine⟨(((i+1:Nat):Int),Gr (g.l.take (i+1))),?_,⟨i+1,rfl,by omega,rfl⟩,by dsimp only;omega⟩
   refine(congrArg (fun x:Option UInt8=>x.bind _) d1).trans ?_
   rw[Option.bind_some,b1,Option.bind_some]
   refine(congrArg (fun x:Option UInt8=>x.bind _) d2).trans ?_
   rw[Option.bind_some,b2,Option.bind_some,YN hlt,show(i:Int)+1=((i+1:Nat):Int) by omega,BF (by omega)]
  ·right
   rw[if_neg (by rw[decide_eq_true_eq];omega)]
   exact⟨_,rfl,by rw[List.take_of_length_le (by omega)]⟩
 ·rintro _ rfl
  dsimp only[Sum.elim_inl]
  unfold lY
  rw[if_pos ⟨by rw[Ng];unfold B4;omega,fun h=>by cases h⟩]
  rfl
theorem uZ(K:Ar UInt8 32):RM K=some (Gr K.l):=by
 unfold RM
 rw[if_pos (by decide),List.drop_zero,List.take_of_length_le (by rw[K.len];exact Nat.le_refl _),RS _ (by simp[K.len])]
 rfl
theorem Ke: ∀k:Fin 16,Lz (k.1:Int)=some [hd k.1]:=by decide+kernel
theorem VT(g:GS UInt8)(h:g.l.length<1000000):JP g=some (Gr g.l):=by
 unfold JP
 refine EE (fun s=>g.l.length-s.2.toNat) (fun s=> ∃i:Nat,s.2=i∧i≤g.l.length∧s.1=Gr (g.l.take i)) (fun b=>b= .inl (Gr g.l)) ⟨0,rfl,by omega,rfl⟩ ?_ ?_
 ·rintro⟨t,s⟩ ⟨i,rfl,hi,rfl⟩
  dsimp only
  have hlen:=Ng (g.l.take i)
  rw[List.length_take]at hlen
  by_cases hlt:i<g.l.length
  ·left
   have hb:=g.l[i].toNat_lt
   have q1:IntKind.i64.wrap (Int.tdiv (g.l[i].toNat:Int) 16)=((g.l[i].toNat/16:Nat):Int):=by
    rw[show(16:Int)=((16:Nat):Int)from rfl,←Int.ofNat_tdiv,BF (by omega)]
   have q2:Int.tmod (g.l[i].toNat:Int) 16=((g.l[i].toNat%16:Nat):Int):=by
    rw[show(16:Int)=((16:Nat):Int)from rfl,←Int.ofNat_tmod]
   have d1:=Ke ⟨g.l[i].toNat/16,by omega⟩
   have d2:=Ke ⟨g.l[i].toNat%16,by omega⟩
   dsimp only at d1 d2
   rw[if_pos (by rw[decide_eq_true_eq];omega),DH,List.getElem?_eq_getElem hlt,Option.bind_some,BF (by omega),if_neg (by decide),Option.bind_some,q1,d1,Option.bind_some,if_pos (by simp;unfold B4;omega),Option.bind_some,Option.bind_some,BF (by omega),if_neg (by decide),Option.bind_some,q2,d2,Option.bind_some,if_pos (by simp;unfold B4;omega),Option.bind_some]
   refine⟨_,rfl,⟨i+1,?_,by omega,(YN hlt).symm⟩,?_⟩
   ·dsimp only;rw[show(i:Int)+1=((i+1:Nat):Int) by omega,BF (by omega)]
   ·dsimp only;rw[show(i:Int)+1=((i+1:Nat):Int) by omega,BF (by omega)];omega
  ·right
   rw[if_neg (by rw[decide_eq_true_eq];omega)]
   exact⟨_,rfl,by rw[List.take_of_length_le (by omega)]⟩
 ·rintro _ rfl;rfl
theorem pF(K:Ar UInt8 32):PA K=some (.mk K.l):=by
 unfold PA
 have hK:=K.len
 refine EE (fun s=>32-s.1.toNat) (fun s=> ∃i:Nat,s.1=i∧i≤32∧s.2=fN (K.l.take i)) (fun b=>b= .inl (.mk K.l)) ⟨0,rfl,by omega,rfl⟩ ?_ ?_
 ·rintro⟨s,t⟩ ⟨i,rfl,hi,rfl⟩
  dsimp only
  by_cases hlt:i<32
  ·left
   have hl:i<K.l.length:=by omega
   rw[if_pos (by rw[decide_eq_true_eq];omega),CN hlt,Option.bind_some,List.getElem?_eq_getElem hl,Option.bind_some,Vo (by rw[RX,List.length_take];unfold B4;omega),Option.bind_some]
   refine⟨_,rfl,⟨i+1,?_,by omega,?_⟩,?_⟩
   ·dsimp only;rw[show(i:Int)+1=((i+1:Nat):Int) by omega,BF (by omega)]
   ·dsimp only;rw[RX,List.take_succ_eq_append_getElem hl,WE]
   ·dsimp only;rw[show(i:Int)+1=((i+1:Nat):Int) by omega,BF (by omega)];omega
  ·right
   rw[if_neg (by rw[decide_eq_true_eq];omega)]
   refine⟨_,rfl,?_⟩
   rw[List.take_of_length_le (by omega)]
   cases hKl:K.l with
   |nil=>rw[hKl]at hK;simp at hK
   |cons x l=>rfl
 ·rintro _ rfl;rfl
end Go.Proofs.YtobejhpigbllpaaGreatDoor.Am
namespace Go.Proofs.YtobejhpigbllpaaGreatDoor.Am
def Mk(l:List UInt8):AR:=BO [46] (l.map fun b=>DP b.toNat)
theorem Vw{l:List AR}{n:Nat}(h: ∀x∈l,x.length≤n):Lc l≤l.length*n:=by
 induction l with
 |nil=>simp[Lc]
 |cons x l ih=>
  have h1:=h x (by simp)
  have h2:=ih fun y hy=>h y (by simp[hy])
  simp only[Lc,List.map_cons,List.sum_cons,List.length_cons,Nat.add_mul,Nat.one_mul]at h2 ⊢
  omega
theorem SQ(l:List UInt8):(Mk l).length≤21*l.length:=by
 unfold Mk
 rw[Es]
 have:=Vw (l:=l.map fun b=>DP b.toNat) (n:=20) (fun x hx=>by obtain⟨b,_,rfl⟩:=List.mem_map.1 hx;exact Jq _)
 simp at this ⊢
 omega
theorem dec8(b:UInt8):FK (DA (b.toNat:Int))=some (DP b.toNat):=by
 rw[NO,Kb (by have:=b.toNat_lt;omega)]
theorem r03_8(b:UInt8):Jb (DA (b.toNat:Int))=some (DP b.toNat):=by
 rw[ZM,Kb (by have:=b.toNat_lt;omega)]
theorem R5{α:Type}{l d:List α}{x:α}{i:Nat}(h:i<l.length)(hd:l.take i=d):(l.set i x).take (i+1)=d++[x]:=by
 rw[List.take_succ_eq_append_getElem (by rw[List.length_set];exact h),List.getElem_set_self,List.take_set_of_le (Nat.le_refl _),hd]
theorem pH(B:Ar UInt8 4):PC B=some (Mk B.l):=by
 have hB:=B.len
 unfold PC
 refine EE (fun s=>4-s.1.toNat) (fun s=> ∃i:Nat,s.1=i∧i≤4∧s.2.l.take i=(B.l.take i).map fun b=>DP b.toNat) (fun r=> ∃A:Ar AR 4,r= .inl A∧A.l=B.l.map fun b=>DP b.toNat) ⟨0,rfl,by omega,rfl⟩ ?_ ?_
 ·rintro⟨s,A⟩ ⟨i,rfl,hi,hA⟩
  dsimp only at hA ⊢
  by_cases hlt:i<4
  ·left
   rw[if_pos (by rw[decide_eq_true_eq];omega),DH,List.getElem?_eq_getElem (show i<B.l.length by omega),Option.bind_some,dec8,Option.bind_some,CN hlt,Option.bind_some,if_pos hlt,Option.bind_some]
   refine⟨_,rfl,⟨i+1,?_,by omega,?_⟩,?_⟩
   ·dsimp only;rw[show(i:Int)+1=((i+1:Nat):Int) by omega,BF (by omega)]
   ·dsimp only
    rw[List.take_succ_eq_append_getElem (show i<B.l.length by omega),List.map_append]
    exact R5 (by rw[A.len];exact hlt) hA
   ·dsimp only;rw[show(i:Int)+1=((i+1:Nat):Int) by omega,BF (by omega)];omega
  ·right
   rw[if_neg (by rw[decide_eq_true_eq];omega)]
   refine⟨_,rfl,A,rfl,?_⟩
   rw[List.take_of_length_le (by rw[A.len];omega),List.take_of_length_le (by omega)]at hA
   exact hA
 ·rintro _ ⟨A,rfl,hA⟩
  dsimp only[Sum.elim_inl]
  have hl:=SQ B.l
  have hlt:(Mk B.l).length<1000000000:=by omega
  have hj:=Ph (.mk A.l) [46] (by simp[A.len]) (by decide) (by show(BO [46] A.l).length<1000000000;rw[hA];exact hlt)
  rw[if_pos (by decide),List.drop_zero,List.take_of_length_le (by rw[A.len];exact Nat.le_refl _),hj,Lx,hA]
  rfl
theorem sT(B:Ar UInt8 4):RC B=some (Mk B.l):=by
 have hB:=B.len
 unfold RC
 have h0:0<B.l.length:=by omega
 rw[show(0:Int)=((0:Nat):Int)from rfl,CN (by decide),Option.bind_some,List.getElem?_eq_getElem h0,Option.bind_some,r03_8,Option.bind_some]
 refine EE (fun s=>4-s.2.toNat) (fun s=> ∃i:Nat,s.2=((i+1:Nat):Int)∧i+1≤4∧s.1=Mk (B.l.take (i+1))) (fun r=>r= .inl (Mk B.l)) ⟨0,rfl,by omega,by
  rw[List.take_succ_eq_append_getElem h0];rfl⟩ ?_ ?_
 ·rintro⟨t,s⟩ ⟨i,rfl,hi,rfl⟩
  dsimp only
  have hl:=SQ (B.l.take (i+1))
  rw[List.length_take]at hl
  by_cases hlt:i+1<4
  ·left
   have hd:=Jq (B.l[i+1]'(by omega)).toNat
   rw[if_pos (by rw[decide_eq_true_eq];omega),if_pos (by simp;unfold B4;omega),Option.bind_some,CN hlt,Option.bind_some,List.getElem?_eq_getElem (show i+1<B.l.length by omega),Option.bind_some,r03_8,Option.bind_some,if_pos (by simp;unfold B4;omega),Option.bind_some]
   refine⟨_,rfl,⟨i+1,?_,by omega,?_⟩,?_⟩
   ·dsimp only;rw[show((i+1:Nat):Int)+1=((i+1+1:Nat):Int) by omega,BF (by omega)]
   ·dsimp only
    unfold Mk
    rw[List.take_succ_eq_append_getElem (show i+1<B.l.length by omega),List.map_append,List.map_singleton,NI _ _ _ (by simp;intro h;rw[h]at hB;simp at hB)]
   ·dsimp only;rw[show((i+1:Nat):Int)+1=((i+1+1:Nat):Int) by omega,BF (by omega)];omega
  ·right
   rw[if_neg (by rw[decide_eq_true_eq];omega)]
   exact⟨_,rfl,by rw[List.take_of_length_le (by omega)]⟩
 ·rintro _ rfl;rfl
def RW:Nat→Nat→AR
 |0,_=>[]
 |k+1,n=>if n<16 then [hd n]else RW k (n/16)++[hd (n%16)]
def L6(n:Nat):AR:=RW 5 n
theorem YQ: ∀(k n:Nat),n<16^(k+1)→RW (k+2) n=RW (k+1) n
 |0,n,h=>by
  have h:n<16:=by simpa using h
  simp[RW,h]
 |k+1,n,h=>by
  by_cases hn:n<16
  ·simp[RW,hn]
  ·have hd:n/16<16^(k+1):=by
    rw[Nat.div_lt_iff_lt_mul (by decide),←Nat.pow_succ];exact h
   have ih:=YQ k (n/16) hd
   rw[RW,if_neg hn,ih]
   conv=>rhs;rw[RW,if_neg hn]
theorem WB{n:Nat}(h:n<65536):L6 n=if n<16 then [hd n]else L6 (n/16)++[hd (n%16)]:=by
 unfold L6
 rw[YQ 3 (n/16) (by omega)]
 rfl
theorem fI: ∀(k n:Nat),(RW k n).length≤k
 |0,_=>by simp[RW]
 |k+1,n=>by
  rw[RW]
  split
  ·simp
  ·simp[fI k]
theorem RV(n:Nat):(L6 n).length≤5:=fI 5 n
theorem Kc{m:Nat}(h:m<65536):(CM (m:Int)).toNat=m:=by
 show(UInt16.ofNat ((m:Int)%65536).toNat).toNat=m
 rw[show((m:Int)%65536).toNat=m by omega]
 simp[UInt16.toNat_ofNat,h]
theorem and15{x:Nat}(h:x<65536):Fy .and .u16 (x:Int) ((15:UInt16).toNat:Int)=((x%16:Nat):Int):=by
 have h1:(BitVec.ofInt 16 (x:Int)&&&BitVec.ofInt 16 ((15:UInt16).toNat:Int)).toNat=x%16:=by
  rw[BitVec.toNat_and]
  have e1:(BitVec.ofInt 16 (x:Int)).toNat=x:=by
   rw[BitVec.toNat_ofInt];omega
  have e2:(BitVec.ofInt 16 ((15:UInt16).toNat:Int)).toNat=2^4-1:=by decide
  rw[e1,e2,Nat.and_two_pow_sub_one_eq_mod]
 unfold Fy
 show((BitVec.ofInt 16 (x:Int)&&&BitVec.ofInt 16 ((15:UInt16).toNat:Int)).toNat:Int)=_
 rw[h1]
theorem enc_hd: ∀k:Fin 16,qU ((hd k.1).toNat:Int)=[hd k.1]:=by decide+kernel
theorem shr16(x:UInt16): ∃y:UInt16,(if((4:UInt64).toNat:Int)<0 then none else some (CM (Int.fdiv (x.toNat:Int) (2^(min ((4:UInt64).toNat:Int).toNat 16)))))=some y∧y.toNat=x.toNat/16:=by
 refine⟨_,if_neg (by decide),?_⟩
 rw[show((2:Int)^(min ((4:UInt64).toNat:Int).toNat 16))=((16:Nat):Int)from rfl,←Int.ofNat_fdiv,Kc]
 have:=x.toNat_lt;omega
theorem fE(n:UInt16):Mp n=some (L6 n.toNat):=by
 unfold Mp
 refine EE (fun s=>s.1.toNat) (fun s=>s.2.length≤10∧s.2.length+(L6 s.1.toNat).length≤5∧L6 n.toNat=L6 s.1.toNat++s.2) (fun r=>r= .inr (L6 n.toNat)) ⟨by simp,by simpa using RV _,by simp⟩ ?_ ?_
 ·rintro⟨c,t⟩ ⟨h1,h2,h3⟩
  have hc:=c.toNat_lt
  dsimp only at h1 h2 h3 ⊢
  rw[and15 (by omega),Kc (by omega),DH]
  have d:=Tg ⟨c.toNat%16,by omega⟩
  obtain⟨y,f1,f2⟩:=shr16 c
  have hx:((if(qU ((hd (c.toNat%16)).toNat:Int)).length+t.length≤2*B4 then some (qU ((hd (c.toNat%16)).toNat:Int)++t)else none):Option AR)=some (hd (c.toNat%16)::t):=by
   rw[enc_hd ⟨c.toNat%16,by omega⟩,if_pos (by simp;unfold B4;omega)];rfl
  have hg:=WB (n:=c.toNat) (by omega)
  by_cases hy:y.toNat=0
  ·right
   refine⟨.inr (L6 n.toNat),?_,rfl⟩
   refine(congrArg (fun x:Option UInt8=>x.bind _) d).trans ?_
   rw[Option.bind_some,hx,Option.bind_some,f1,Option.bind_some,if_pos (by rw[decide_eq_true_eq,hy];rfl)]
   rw[h3,hg,if_pos (by omega),Nat.mod_eq_of_lt (show c.toNat<16 by omega)]
   rfl
  ·left
   rw[if_neg (by omega)]at hg
   rw[hg,List.length_append,List.length_singleton,←f2]at h2
   refine⟨(y,hd (c.toNat%16)::t),?_,⟨by simp;omega,by simp;omega,?_⟩,by dsimp only;omega⟩
   ·refine(congrArg (fun x:Option UInt8=>x.bind _) d).trans ?_
    rw[Option.bind_some,hx,Option.bind_some,f1,Option.bind_some,if_neg (by rw[decide_eq_true_eq];intro h;exact hy (by simpa using h))]
   ·dsimp only;rw[h3,hg,f2];simp
 ·rintro _ rfl;rfl
theorem TM: ∀(k n:Nat),n<65536→(Dp k (n:Int)=none∨Dp k (n:Int)=some (L6 n))∧(n<16^(k+1)→Dp (k+1) (n:Int)=some (L6 n)):=by
 have step: ∀(k n:Nat),n<65536→Dp (k+1) (n:Int)=if n<16 then some (L6 n)else(Dp k ((n/16:Nat):Int)).bind fun x=>if x.length+1≤2*B4 then some (x++[hd (n%16)])else none:=by
  intro k n hn
  rw[Dp]
  by_cases h:n<16
  ·rw[if_pos (by rw[decide_eq_true_eq];omega),if_pos h,Ke ⟨n,h⟩,WB hn,if_pos h];rfl
  ·have q1:IntKind.i64.wrap (Int.tdiv (n:Int) 16)=((n/16:Nat):Int):=by
    rw[show(16:Int)=((16:Nat):Int)from rfl,←Int.ofNat_tdiv,BF (by omega)]
   have q2:Int.tmod (n:Int) 16=((n%16:Nat):Int):=by
    rw[show(16:Int)=((16:Nat):Int)from rfl,←Int.ofNat_tmod]
   have d:=Ke ⟨n%16,by omega⟩
   dsimp only at d
   rw[if_neg (by rw[decide_eq_true_eq];omega),if_neg h,if_neg (by decide),Option.bind_some,q1]
   congr 1
   funext x
   rw[if_neg (by decide),Option.bind_some,q2,d,Option.bind_some]
   by_cases hx:x.length+1≤2*B4
   ·rw[if_pos (by simpa using hx),if_pos hx];rfl
   ·rw[if_neg (by simpa using hx),if_neg hx];rfl
 intro k
 induction k with
 |zero=>
  intro n hn
  refine⟨.inl rfl,fun h=> ?_⟩
  rw[step 0 n hn,if_pos (by simpa using h)]
 |succ k ih=>
  intro n hn
  have fin:Dp k ((n/16:Nat):Int)=some (L6 (n/16))→ ¬n<16→Dp (k+1) (n:Int)=some (L6 n):=fun e h=>by
   have hl:=RV (n/16)
   rw[step k n hn,if_neg h,e,Option.bind_some,if_pos (by unfold B4;omega),WB hn,if_neg h]
  have fin': ∀k,Dp k ((n/16:Nat):Int)=some (L6 (n/16))→ ¬n<16→Dp (k+1) (n:Int)=some (L6 n):=fun k e h=>by
   have hl:=RV (n/16)
   rw[step k n hn,if_neg h,e,Option.bind_some,if_pos (by unfold B4;omega),WB hn,if_neg h]
  constructor
  ·by_cases h:n<16
   ·right;rw[step k n hn,if_pos h]
   ·rcases(ih (n/16) (by omega)).1 with e|e
    ·left;rw[step k n hn,if_neg h,e];rfl
    ·right;exact fin e h
  ·intro hp
   by_cases h:n<16
   ·rw[step (k+1) n hn,if_pos h]
   ·refine fin' (k+1) ((ih (n/16) (by omega)).2 ?_) h
    rw[Nat.div_lt_iff_lt_mul (by decide),←Nat.pow_succ];exact hp
theorem pG(n:Nat)(h:n<65536):PB (n:Int)=some (L6 n):=
 fO (fun k=>(TM k n h).1) ((TM 4 n h).2 (by omega))
def xJ(B:List UInt8)(i:Nat):Nat:=256*((B[2*i]?).getD 0).toNat+((B[2*i+1]?).getD 0).toNat
theorem xI(B:List UInt8)(i:Nat):xJ B i<65536:=by
 have h1:=((B[2*i]?).getD 0).toNat_lt
 have h2:=((B[2*i+1]?).getD 0).toNat_lt
 unfold xJ;omega
theorem or8{x y:Nat}(hx:x<256)(hy:y<256):Fy .or .u64 ((256*x:Nat):Int) (y:Int)=((256*x+y:Nat):Int):=by
 show((BitVec.ofInt 64 ((256*x:Nat):Int)|||BitVec.ofInt 64 (y:Int)).toNat:Int)=_
 rw[BitVec.toNat_or]
 have e1:(BitVec.ofInt 64 ((256*x:Nat):Int)).toNat=256*x:=by rw[BitVec.toNat_ofInt];omega
 have e2:(BitVec.ofInt 64 (y:Int)).toNat=y:=by rw[BitVec.toNat_ofInt];omega
 rw[e1,e2,show 256*x=2^8*x from rfl,←Nat.two_pow_add_eq_or_of_lt hy]
theorem shl8(x:UInt64)(h:x.toNat<256): ∃y:UInt64,(if((8:UInt64).toNat:Int)<0 then none else some (DA ((x.toNat:Int)*2^(min ((8:UInt64).toNat:Int).toNat 64))))=some y∧y.toNat=256*x.toNat:=by
 refine⟨_,if_neg (by decide),?_⟩
 rw[show((2:Int)^(min ((8:UInt64).toNat:Int).toNat 64))=256 from rfl,show(x.toNat:Int)*256=((256*x.toNat:Nat):Int) by omega,Kb (by omega)]
theorem sized2(x y:UInt8):Lj (.mk [x,y])=some true:=by
 unfold Lj;rfl
end Go.Proofs.YtobejhpigbllpaaGreatDoor.Am
