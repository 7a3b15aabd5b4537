/-
  What functions compute, and that they do. Printed by mkwalk.py.
  All walks. Printed by mkwalk.py.
  Plain laws: addresses, prefixes, endpoints: which may be, which is ahead.
  Plain laws: what the functions that split a text come to.
  Plain laws: texts without blanks at their ends, letters made small.
  Plain laws: two loops side by side; a text's lines with and without an end.
  Plain laws: runes of a text; one of two bytes in a text.
  Plain laws: lines of pairs; the law PairlineLines.
  Plain laws: the text of lines; the laws LinesSplit and LinesJoin.
  Plain laws: blocks of pairs; the laws PairlineBlocks, PairlineReads, PairlineMany.
  Plain laws: a number's digits; the text of an error.
  Plain laws: a number's text.
  Plain laws: texts put together; bytes as digits of sixteen.
  Plain laws: addresses as texts.
  Plain laws: sixteen bytes as a text.
  Plain laws: endpoints and prefixes as texts; fields as pairs.
  Plain laws: what is read of texts (numbers, digits of sixteen, addresses), and that what was written is read as it was.
  Plain laws: numbers, digits of sixteen and four bytes as they are read by the program and by the reference.
-/
import Derived.Test.YtobejhpigbllpaaGreatDoorX4
section
set_option linter.unusedVariables false
set_option maxRecDepth 100000
set_option maxHeartbeats 4000000
namespace Go.Proofs.YtobejhpigbllpaaGreatDoor.Am
noncomputable def FQ(a0:Al):Option (AH×Int):=(E3 a0).bind fun x2=>if(!x2)=true then some ([],1) else (if(decide (a0.Kind=1))=true then (some ():Option Unit).bind (fun(p13:Unit)=>some (.inl (()))) else if(decide (a0.Kind=2))=true then (some ():Option Unit).bind (fun(p15:Unit)=>(some ():Option Unit).bind (fun(p16:Unit)=>(some ():Option Unit).bind (fun(p17:Unit)=>some (.inr (.inl (())))))) else if(decide (a0.Kind=3))=true then (some ():Option Unit).bind (fun(p19:Unit)=>(some ():Option Unit).bind (fun(p20:Unit)=>some (.inr (.inr (.inl (())))))) else if(decide (a0.Kind=4))=true then (some ():Option Unit).bind (fun(p22:Unit)=>some (.inr (.inr (.inr (.inl (())))))) else if(decide (a0.Kind=5))=true then (some ():Option Unit).bind (fun(p24:Unit)=>some (.inr (.inr (.inr (.inr (.inl (()))))))) else if(decide (a0.Kind=6))=true then (some ():Option Unit).bind (fun(p26:Unit)=>(some ():Option Unit).bind (fun(p27:Unit)=>some (.inr (.inr (.inr (.inr (.inr (.inl (()))))))))) else some (.inr (.inr (.inr (.inr (.inr (.inr (()))))))):Option (Unit⊕(Unit⊕(Unit⊕(Unit⊕(Unit⊕(Unit⊕Unit))))))).bind (Sum.elim (fun(p5:Unit)=>(FF a0).bind fun x30=>(Ng 16 (GS.mk ([[114,101,112,108,121]]:List AH)) [x30]).bind fun x32=>(CH x32 [32]).bind fun x33=>some (x33,0)) (Sum.elim (fun(p6:Unit)=>(LL a0).bind fun x36=>(Ng 16 (GS.mk ([[115,101,110,100]]:List AH)) [x36]).bind fun x38=>(K6 a0).bind fun x40=>(Ng 16 x38 [x40]).bind fun x42=>(FF a0).bind fun x44=>(Ng 16 x42 [x44]).bind fun x46=>(CH x46 [32]).bind fun x47=>some (x47,0)) (Sum.elim (fun(p7:Unit)=>
 (K6 a0).bind fun x50=>(Ng 16 (GS.mk ([[100,101,108,105,118,101,114]]:List AH)) [x50]).bind fun x52=>(FF a0).bind fun x54=>(Ng 16 x52 [x54]).bind fun x56=>(CH x56 [32]).bind fun x57=>some (x57,0)) (Sum.elim (fun(p8:Unit)=>(FF a0).bind fun x60=>(Ng 16 (GS.mk ([[114,101,102,117,115,101]]:List AH)) [x60]).bind fun x62=>(CH x62 [32]).bind fun x63=>some (x63,0)) (Sum.elim (fun(p9:Unit)=>(Mm a0).bind fun x66=>(Ng 16 (GS.mk ([[100,114,111,112]]:List AH)) [x66]).bind fun x68=>(CH x68 [32]).bind fun x69=>some (x69,0)) (Sum.elim (fun(p10:Unit)=>(LL a0).bind fun x72=>(Ng 16 (GS.mk ([[112,97,115,115]]:List AH)) [x72]).bind fun x74=>(FF a0).bind fun x76=>(Ng 16 x74 [x76]).bind fun x78=>(CH x78 [32]).bind fun x79=>some (x79,0)) (fun(p11:Unit)=>(CH (GS.mk ([[]]:List AH)) [32]).bind fun x81=>some (x81,0))))))))
noncomputable def VF(a:CG [Ae]):Cw tb Lz [Ae] [Ak,(T.int .i64)] a:=Af<|Ai (H5 (t:=Ae) 1 r_ r_ Ah) fun _=>Ad (Ap D1)<|Ad (Ap AE)<|Ag<|Af<|Ao (AJ (t:=Ae) (u:=Ae) Ah r_ r_ (An _) r_ r_) fun x1=>Aa.op (AN Pc (.one Ah)) fun x2=>Aj (Fz Ah) fun x3=>Ac<|Aa.cond Ah (Af<|Ad (Ap D1)<|Ad (Ap AE)<|Ac<|Aa.ret (.cons (Az r_)<| .one (Az r_))) (Aa.skip<|Ag<|Ad (AB Ah)<|Ao (AJ (t:=Ae) (u:=(T.int .i64)) Ah r_ r_ AT r_ r_) fun x4=>Aa.inl (τ:=(Unit⊕(Unit⊕(Unit⊕(Unit⊕(Unit⊕(Unit⊕Unit))))))) (φs:=[.val (T.int .i64) x4]) (n:=2) (L:=[(1, .cp 1 0)]) (Γr:=(Sum.elim (fun p5=>⟨[(0, .kv 3560080),(1, .kv 3560120)],[(1, .cells [(53, .val Ae a)]),Cf,Uu,JP,Ut,Dd,CM,CL,CJ,JO]⟩) (Sum.elim (fun p6=>⟨[(0, .kv 3560080),(1, .kv 3560120)],[(1, .cells [(53, .val Ae a)]),Cf,Us,Fe,Ur,Dd,Bq,Bp,Bo,Dg,Df,De,Fd,DW,DV,DU]⟩) (Sum.elim (fun p7=>⟨[(0, .kv 3560080),(1, .kv 3560120)],[(1, .cells [(53, .val Ae a)]),Cf,Uq,Ha,Up,Dd,DO,DN,DM,BX,BW,BV,GZ]⟩) (Sum.elim (fun p8=>⟨[(0, .kv 3560080),(1, .kv 3560120)],[(1, .cells [(53, .val Ae a)]),Cf,Uo,JN,Un,Dd,CM,CL,CJ,JM]⟩) (Sum.elim (fun p9=>⟨[(0, .kv 3560080),(1, .kv 3560120)],[(1, .cells [(53, .val Ae a)]),Cf,Um,JL,Ul,Dd,G7,G6,G5,JK]⟩) (Sum.elim (fun p10=>⟨[(0, .kv 3560080),(1, .kv 3560120)],[(1, .cells [(53, .val Ae a)]),Cf,Uk,GY,Uj,Dd,Bq,Bp,Bo,BX,BW,BV,GX]⟩) (fun p11=>⟨[(0, .kv 3560080),(1, .kv 3560120)],[(1, .cells [(53, .val Ae a)]),Cf,Ui,PD,Uh,Ug]⟩)))))))) 2000000 (Sum.elim (fun p5=>⟨[R2,(1, .cp 1 0)],[(1, .cells [(53, .val Ae a)]),Uu,JP,Ut,Dd,CM,CL,CJ,JO]⟩) (Sum.elim (fun p6=>⟨[R2,(1, .cp 1 0)],[(1, .cells [(53, .val Ae a)]),Us,Fe,Ur,Dd,Bq,Bp,Bo,Dg,Df,De,Fd,DW,DV,DU]⟩) (Sum.elim (fun p7=>⟨[R2,(1, .cp 1 0)],[(1, .cells [(53, .val Ae a)]),Uq,Ha,Up,Dd,DO,DN,DM,BX,BW,BV,GZ]⟩) (Sum.elim (fun p8=>⟨[R2,(1, .cp 1 0)],[(1, .cells [(53, .val Ae a)]),Uo,JN,Un,Dd,CM,CL,CJ,JM]⟩) (Sum.elim (fun p9=>⟨[R2,(1, .cp 1 0)],[(1, .cells [(53, .val Ae a)]),Um,JL,Ul,Dd,G7,G6,G5,JK]⟩) (Sum.elim (fun p10=>⟨[R2,(1, .cp 1 0)],[(1, .cells [(53, .val Ae a)]),Uk,GY,Uj,Dd,Bq,Bp,Bo,BX,BW,BV,GX]⟩) (fun p11=>⟨[R2,(1, .cp 1 0)],[(1, .cells [(53, .val Ae a)]),Ui,PD,Uh,Ug]⟩))))))) I5 r_ r_ r_ (BN r_) (.cons (Jf Ah)<| .nil) sB r_ (
 Af<|Ai (A9 2 _ Iv r_ r_) fun _=>Ad (Ap DF)<|Ag<|Af<|Ab r_<|Ac<|Ax<|Af<|Aj (Av r_ Ah AE) fun x12=>Ab r_<|Ac<|Aa.cond Ah (Af<|Aa.inl (τ:=Unit) (φs:=[]) (n:=1) (L:=[(2, .cp 2 0)]) (Γr:=(fun p13=>⟨[Hx],[(1, .cells [(53, .val Ae a)]),Cr,Cf,F1,CM,CL,CJ]⟩)) 2100000 (fun p13=>⟨[AaN,(2, .cp 2 0)],[(1, .cells [(53, .val Ae a)]),Cr,Cf,CM,CL,CJ]⟩) BP r_ r_ r_ (BN r_) (.nil) sB r_ (Af<|Ai (A9 0 _ Dr r_ r_) fun _=>Ag<|Bg (Bz (φs:=[.fnv (.func AZ) [] [], .fnv (.func Bc) [] [], .fnv (.func Bb) [] []]) 3600040 (.cons B4<| .cons B4<| .cons B4<| .nil) r_ r_ sB (js:=[3600040,3600041,3600042]) r_)<|Ai (Ba Ah Ah r_ r_ r_ r_) fun _=>Ac<|A0 () (.cons (DH r_ r_ r_ r_)<| .nil) sB) (fun p13=>Au sB r_ (.one r_) sB sB) (.one fun p13=>Ai (EZ (l:=[[3600040,3600041,3600042]]) 20001008 (.cons Ah r_<| .nil) r_ r_) fun _=>Bg (Bz (φs:=[.val Ak [114,101,112,108,121], .own 20001008]) 3400360 (.cons D1<| .cons Ah<| .nil) r_ r_ sB (js:=[3400360,3400361]) r_)<|Ai (Ba Ah Ah r_ r_ r_ r_) fun _=>Ad (Ap DF)<|Ac<|BU (js:=[3400360,3400361]) 3560080 2 r_ r_ r_ r_<|BT 3560120 3 r_ r_ r_<|A0 (.inl (())) (.cons (Eo (js:=[3400360,3400361]) (j:=2) (j':=3560080) r_ r_ r_ r_ r_)<| .cons (Dc r_)<| .nil) sB)) (Af<|Aj (Av r_ Ah AE) fun x14=>Ab r_<|Ac<|Aa.cond Ah (Af<|Aa.inl (τ:=Unit) (φs:=[]) (n:=1) (L:=[(2, .cp 2 0)]) (Γr:=(fun p15=>⟨[Hx],[(1, .cells [(53, .val Ae a)]),Cr,Cf,F1,Bq,Bp,Bo]⟩)) 2100000 (fun p15=>⟨[Jb,(2, .cp 2 0)],[(1, .cells [(53, .val Ae a)]),Cr,Cf,Bq,Bp,Bo]⟩) HK r_ r_ r_ (BN r_) (.nil) sB r_ (Af<|Ai (A9 0 _ Dr r_ r_) fun _=>
 Ag<|Bg (Bz (φs:=[.fnv (.func Cv) [] [], .fnv (.func C8) [] [], .fnv (.func C7) [] []]) 3600040 (.cons B4<| .cons B4<| .cons B4<| .nil) r_ r_ sB (js:=[3600040,3600041,3600042]) r_)<|Ai (Ba Ah Ah r_ r_ r_ r_) fun _=>Ac<|A0 () (.cons (DH r_ r_ r_ r_)<| .nil) sB) (fun p15=>Au sB r_ (.one r_) sB sB) (.one fun p15=>Aa.inl (τ:=Unit) (φs:=[]) (n:=1) (L:=[(2, .cp 2 0),Jb]) (Γr:=(fun p16=>⟨[OK],[(1, .cells [(53, .val Ae a)]),Cr,Cf,F1,Uv,Bq,Bp,Bo,Dg,Df,De]⟩)) 2100000 (fun p16=>⟨[OL,(2, .cp 2 0),Jb],[(1, .cells [(53, .val Ae a)]),Cr,Cf,Bq,Bp,Bo,Dg,Df,De]⟩) G3 r_ r_ r_ (BN r_) (.nil) sB r_ (Af<|Ai (A9 0 _ Dr r_ r_) fun _=>Ag<|Bg (Bz (φs:=[.fnv (.func BS) [] [], .fnv (.func Cj) [] [], .fnv (.func Ci) [] []]) 13600040 (.cons B4<| .cons B4<| .cons B4<| .nil) r_ r_ sB (js:=[13600040,13600041,13600042]) r_)<|Ai (Ba Ah Ah r_ r_ r_ r_) fun _=>Ac<|A0 () (.cons (DH r_ r_ r_ r_)<| .nil) sB) (fun p16=>Au sB r_ (.one r_) sB sB) (.one fun p16=>Aa.inl (τ:=Unit) (φs:=[]) (n:=1) (L:=[(2, .cp 2 0),Jb,OL]) (Γr:=(fun p17=>⟨[oV],[(1, .cells [(53, .val Ae a)]),Cr,Cf,F1,Uv,oU,Bq,Bp,Bo,Dg,Df,De,DW,DV,DU]⟩)) 2100000 (fun p17=>⟨[oW,(2, .cp 2 0),Jb,OL],[(1, .cells [(53, .val Ae a)]),Cr,Cf,Bq,Bp,Bo,Dg,Df,De,DW,DV,DU]⟩) BP r_ r_ r_ (BN r_) (.nil) sB r_ (Af<|Ai (A9 0 _ Dr r_ r_) fun _=>Ag<|Bg (Bz (φs:=[.fnv (.func AZ) [] [], .fnv (.func Bc) [] [], .fnv (.func Bb) [] []]) 23600040 (.cons B4<| .cons B4<| .cons B4<| .nil) r_ r_ sB (js:=[23600040,23600041,23600042]) r_)<|Ai (Ba Ah Ah r_ r_ r_ r_) fun _=>Ac<|A0 () (.cons (DH r_ r_ r_ r_)<| .nil) sB) (fun p17=>Au sB r_ (.one r_) sB sB) (.one fun p17=>
 Ai (EZ (l:=[[3600040,3600041,3600042],[13600040,13600041,13600042],[23600040,23600041,23600042]]) 20001015 (.cons Ah r_<| .cons Ah r_<| .cons Ah r_<| .nil) r_ r_) fun _=>Bg (Bz (φs:=[.val Ak [115,101,110,100], .own 20001015]) 3400640 (.cons D1<| .cons Ah<| .nil) r_ r_ sB (js:=[3400640,3400641]) r_)<|Ai (Ba Ah Ah r_ r_ r_ r_) fun _=>Ad (Ap DF)<|Ac<|BU (js:=[3400640,3400641]) 3560080 2 r_ r_ r_ r_<|BT 3560120 3 r_ r_ r_<|A0 (.inr (.inl (()))) (.cons (Eo (js:=[3400640,3400641]) (j:=2) (j':=3560080) r_ r_ r_ r_ r_)<| .cons (Dc r_)<| .nil) sB)))) (Af<|Aj (Av r_ Ah AE) fun x18=>Ab r_<|Ac<|Aa.cond Ah (Af<|Aa.inl (τ:=Unit) (φs:=[]) (n:=1) (L:=[(2, .cp 2 0)]) (Γr:=(fun p19=>⟨[Hx],[(1, .cells [(53, .val Ae a)]),Cr,Cf,F1,DO,DN,DM]⟩)) 2100000 (fun p19=>⟨[OJ,(2, .cp 2 0)],[(1, .cells [(53, .val Ae a)]),Cr,Cf,DO,DN,DM]⟩) G3 r_ r_ r_ (BN r_) (.nil) sB r_ (Af<|Ai (A9 0 _ Dr r_ r_) fun _=>Ag<|Bg (Bz (φs:=[.fnv (.func BS) [] [], .fnv (.func Cj) [] [], .fnv (.func Ci) [] []]) 3600040 (.cons B4<| .cons B4<| .cons B4<| .nil) r_ r_ sB (js:=[3600040,3600041,3600042]) r_)<|Ai (Ba Ah Ah r_ r_ r_ r_) fun _=>Ac<|A0 () (.cons (DH r_ r_ r_ r_)<| .nil) sB) (fun p19=>Au sB r_ (.one r_) sB sB) (.one fun p19=>Aa.inl (τ:=Unit) (φs:=[]) (n:=1) (L:=[(2, .cp 2 0),OJ]) (Γr:=(fun p20=>⟨[OK],[(1, .cells [(53, .val Ae a)]),Cr,Cf,F1,oS,DO,DN,DM,BX,BW,BV]⟩)) 2100000 (fun p20=>⟨[oT,(2, .cp 2 0),OJ],[(1, .cells [(53, .val Ae a)]),Cr,Cf,DO,DN,DM,BX,BW,BV]⟩) BP r_ r_ r_ (BN r_) (.nil) sB r_ (Af<|Ai (A9 0 _ Dr r_ r_) fun _=>
 Ag<|Bg (Bz (φs:=[.fnv (.func AZ) [] [], .fnv (.func Bc) [] [], .fnv (.func Bb) [] []]) 13600040 (.cons B4<| .cons B4<| .cons B4<| .nil) r_ r_ sB (js:=[13600040,13600041,13600042]) r_)<|Ai (Ba Ah Ah r_ r_ r_ r_) fun _=>Ac<|A0 () (.cons (DH r_ r_ r_ r_)<| .nil) sB) (fun p20=>Au sB r_ (.one r_) sB sB) (.one fun p20=>Ai (EZ (l:=[[3600040,3600041,3600042],[13600040,13600041,13600042]]) 20001021 (.cons Ah r_<| .cons Ah r_<| .nil) r_ r_) fun _=>Bg (Bz (φs:=[.val Ak [100,101,108,105,118,101,114], .own 20001021]) 3400880 (.cons D1<| .cons Ah<| .nil) r_ r_ sB (js:=[3400880,3400881]) r_)<|Ai (Ba Ah Ah r_ r_ r_ r_) fun _=>Ad (Ap DF)<|Ac<|BU (js:=[3400880,3400881]) 3560080 2 r_ r_ r_ r_<|BT 3560120 3 r_ r_ r_<|A0 (.inr (.inr (.inl (())))) (.cons (Eo (js:=[3400880,3400881]) (j:=2) (j':=3560080) r_ r_ r_ r_ r_)<| .cons (Dc r_)<| .nil) sB))) (Af<|Aj (Av r_ Ah AE) fun x21=>Ab r_<|Ac<|Aa.cond Ah (Af<|Aa.inl (τ:=Unit) (φs:=[]) (n:=1) (L:=[(2, .cp 2 0)]) (Γr:=(fun p22=>⟨[Hx],[(1, .cells [(53, .val Ae a)]),Cr,Cf,F1,CM,CL,CJ]⟩)) 2100000 (fun p22=>⟨[oR,(2, .cp 2 0)],[(1, .cells [(53, .val Ae a)]),Cr,Cf,CM,CL,CJ]⟩) BP r_ r_ r_ (BN r_) (.nil) sB r_ (Af<|Ai (A9 0 _ Dr r_ r_) fun _=>Ag<|Bg (Bz (φs:=[.fnv (.func AZ) [] [], .fnv (.func Bc) [] [], .fnv (.func Bb) [] []]) 3600040 (.cons B4<| .cons B4<| .cons B4<| .nil) r_ r_ sB (js:=[3600040,3600041,3600042]) r_)<|Ai (Ba Ah Ah r_ r_ r_ r_) fun _=>Ac<|A0 () (.cons (DH r_ r_ r_ r_)<| .nil) sB) (fun p22=>Au sB r_ (.one r_) sB sB) (.one fun p22=>Ai (EZ (l:=[[3600040,3600041,3600042]]) 20001026 (.cons Ah r_<| .nil) r_ r_) fun _=>
 Bg (Bz (φs:=[.val Ak [114,101,102,117,115,101], .own 20001026]) 3401080 (.cons D1<| .cons Ah<| .nil) r_ r_ sB (js:=[3401080,3401081]) r_)<|Ai (Ba Ah Ah r_ r_ r_ r_) fun _=>Ad (Ap DF)<|Ac<|BU (js:=[3401080,3401081]) 3560080 2 r_ r_ r_ r_<|BT 3560120 3 r_ r_ r_<|A0 (.inr (.inr (.inr (.inl (()))))) (.cons (Eo (js:=[3401080,3401081]) (j:=2) (j':=3560080) r_ r_ r_ r_ r_)<| .cons (Dc r_)<| .nil) sB)) (Af<|Aj (Av r_ Ah AE) fun x23=>Ab r_<|Ac<|Aa.cond Ah (Af<|Aa.inl (τ:=Unit) (φs:=[]) (n:=1) (L:=[(2, .cp 2 0)]) (Γr:=(fun p24=>⟨[Hx],[(1, .cells [(53, .val Ae a)]),Cr,Cf,F1,G7,G6,G5]⟩)) 2100000 (fun p24=>⟨[oQ,(2, .cp 2 0)],[(1, .cells [(53, .val Ae a)]),Cr,Cf,G7,G6,G5]⟩) M0 r_ r_ r_ (BN r_) (.nil) sB r_ (Af<|Ai (A9 0 _ Dr r_ r_) fun _=>Ag<|Bg (Bz (φs:=[.fnv (.func Dk) [] [], .fnv (.func D3) [] [], .fnv (.func D2) [] []]) 3600040 (.cons B4<| .cons B4<| .cons B4<| .nil) r_ r_ sB (js:=[3600040,3600041,3600042]) r_)<|Ai (Ba Ah Ah r_ r_ r_ r_) fun _=>Ac<|A0 () (.cons (DH r_ r_ r_ r_)<| .nil) sB) (fun p24=>Au sB r_ (.one r_) sB sB) (.one fun p24=>Ai (EZ (l:=[[3600040,3600041,3600042]]) 20001031 (.cons Ah r_<| .nil) r_ r_) fun _=>Bg (Bz (φs:=[.val Ak [100,114,111,112], .own 20001031]) 3401280 (.cons D1<| .cons Ah<| .nil) r_ r_ sB (js:=[3401280,3401281]) r_)<|Ai (Ba Ah Ah r_ r_ r_ r_) fun _=>Ad (Ap DF)<|Ac<|BU (js:=[3401280,3401281]) 3560080 2 r_ r_ r_ r_<|BT 3560120 3 r_ r_ r_<|A0 (.inr (.inr (.inr (.inr (.inl (())))))) (.cons (Eo (js:=[3401280,3401281]) (j:=2) (j':=3560080) r_ r_ r_ r_ r_)<| .cons (Dc r_)<| .nil) sB)) (
 Af<|Aj (Av r_ Ah AE) fun x25=>Ab r_<|Ac<|Aa.cond Ah (Af<|Aa.inl (τ:=Unit) (φs:=[]) (n:=1) (L:=[(2, .cp 2 0)]) (Γr:=(fun p26=>⟨[Hx],[(1, .cells [(53, .val Ae a)]),Cr,Cf,F1,Bq,Bp,Bo]⟩)) 2100000 (fun p26=>⟨[OI,(2, .cp 2 0)],[(1, .cells [(53, .val Ae a)]),Cr,Cf,Bq,Bp,Bo]⟩) HK r_ r_ r_ (BN r_) (.nil) sB r_ (Af<|Ai (A9 0 _ Dr r_ r_) fun _=>Ag<|Bg (Bz (φs:=[.fnv (.func Cv) [] [], .fnv (.func C8) [] [], .fnv (.func C7) [] []]) 3600040 (.cons B4<| .cons B4<| .cons B4<| .nil) r_ r_ sB (js:=[3600040,3600041,3600042]) r_)<|Ai (Ba Ah Ah r_ r_ r_ r_) fun _=>Ac<|A0 () (.cons (DH r_ r_ r_ r_)<| .nil) sB) (fun p26=>Au sB r_ (.one r_) sB sB) (.one fun p26=>Aa.inl (τ:=Unit) (φs:=[]) (n:=1) (L:=[(2, .cp 2 0),OI]) (Γr:=(fun p27=>⟨[OK],[(1, .cells [(53, .val Ae a)]),Cr,Cf,F1,oO,Bq,Bp,Bo,BX,BW,BV]⟩)) 2100000 (fun p27=>⟨[oP,(2, .cp 2 0),OI],[(1, .cells [(53, .val Ae a)]),Cr,Cf,Bq,Bp,Bo,BX,BW,BV]⟩) BP r_ r_ r_ (BN r_) (.nil) sB r_ (Af<|Ai (A9 0 _ Dr r_ r_) fun _=>Ag<|Bg (Bz (φs:=[.fnv (.func AZ) [] [], .fnv (.func Bc) [] [], .fnv (.func Bb) [] []]) 13600040 (.cons B4<| .cons B4<| .cons B4<| .nil) r_ r_ sB (js:=[13600040,13600041,13600042]) r_)<|Ai (Ba Ah Ah r_ r_ r_ r_) fun _=>Ac<|A0 () (.cons (DH r_ r_ r_ r_)<| .nil) sB) (fun p27=>Au sB r_ (.one r_) sB sB) (.one fun p27=>Ai (EZ (l:=[[3600040,3600041,3600042],[13600040,13600041,13600042]]) 20001037 (.cons Ah r_<| .cons Ah r_<| .nil) r_ r_) fun _=>Bg (Bz (φs:=[.val Ak [112,97,115,115], .own 20001037]) 3401520 (.cons D1<| .cons Ah<| .nil) r_ r_ sB (js:=[3401520,3401521]) r_)<|
 Ai (Ba Ah Ah r_ r_ r_ r_) fun _=>Ad (Ap DF)<|Ac<|BU (js:=[3401520,3401521]) 3560080 2 r_ r_ r_ r_<|BT 3560120 3 r_ r_ r_<|A0 (.inr (.inr (.inr (.inr (.inr (.inl (()))))))) (.cons (Eo (js:=[3401520,3401521]) (j:=2) (j':=3560080) r_ r_ r_ r_ r_)<| .cons (Dc r_)<| .nil) sB))) (Aa.skip<|A8<|Ag<|Bg (cO (zero:=[.s [], .nils]) (φs:=[.val Ak Ak.z, .con (.nils)]) 3401560 (fun _ _ _ _=>⟨(.inr ⟨r_,Ak.hz _ _⟩),⟨r_,r_,r_⟩,trivial⟩) r_ r_ sB (js:=[3401560,3401561]) r_)<|Ai (Ba Ah Ah r_ r_ r_ r_) fun _=>Ad (Ap DF)<|Ac<|BU (js:=[3401560,3401561]) 3560080 2 r_ r_ r_ r_<|BT 3560120 3 r_ r_ r_<|A0 (.inr (.inr (.inr (.inr (.inr (.inr (()))))))) (.cons (Eo (js:=[3401560,3401561]) (j:=2) (j':=3560080) r_ r_ r_ r_ r_)<| .cons (Dc r_)<| .nil) sB))))))) (DQ (fun p5=>Au sB r_ (.kvs r_ (by intro i p h;match i,h with|0,h=>(cases h;rfl)|1,h=>(cases h;rfl)|(_+2),h=>simp at h)) sB sB) (DQ (fun p6=>Au sB r_ (.kvs r_ (by intro i p h;match i,h with|0,h=>(cases h;rfl)|1,h=>(cases h;rfl)|(_+2),h=>simp at h)) sB sB) (DQ (fun p7=>Au sB r_ (.kvs r_ (by intro i p h;match i,h with|0,h=>(cases h;rfl)|1,h=>(cases h;rfl)|(_+2),h=>simp at h)) sB sB) (DQ (fun p8=>Au sB r_ (.kvs r_ (by intro i p h;match i,h with|0,h=>(cases h;rfl)|1,h=>(cases h;rfl)|(_+2),h=>simp at h)) sB sB) (DQ (fun p9=>Au sB r_ (.kvs r_ (by intro i p h;match i,h with|0,h=>(cases h;rfl)|1,h=>(cases h;rfl)|(_+2),h=>simp at h)) sB sB) (DQ (fun p10=>Au sB r_ (.kvs r_ (by intro i p h;match i,h with|0,h=>(cases h;rfl)|1,h=>(cases h;rfl)|(_+2),h=>simp at h)) sB sB) (fun p11=>Au sB r_ (.kvs r_ (by intro i p h;match i,h with|0,h=>(cases h;rfl)|1,h=>(cases h;rfl)|(_+2),h=>simp at h)) sB sB))))))) (.alt (.one fun p5=>
 Ab r_<|Ad (BE Ah r_)<|Ad (BE Ah r_)<|Ai (A9 4 _ Iv r_ r_) fun _=>Ai (Ba Ah (Bl r_ r_) r_ r_ r_ r_) fun _=>Ad (Ap (Bl r_ r_))<|Ag<|Ad (AB Ah)<|Ad (Br Ah r_ r_ r_)<|Ai (SK (t:=Ak) (n:=1) 1006 r_ r_ (.cons r_ (Bl r_ r_)<| .nil _) r_) fun x28=>Ab r_<|Ag<|Af<|Ad (AB Ah)<|Ad (Br Ah r_ r_ r_)<|Ad (EU (n:=1) (Bl r_ r_) r_ r_)<|Ad (Ap AE)<|Ac<|Ax<|AR (Γ':=⟨[(1, .cp 1 0),(6, .own 1006),(22, .kv 3400361),T8,R1],[(1, .cells [(53, .val Ae a)]),(1006, .row Ak (.mk x28)),JP,CM,CL,CJ,JO]⟩) sB r_<|Af<|Ad (Bt (t:=T.b) (y:=true) (Av r_ Ah Ah) r_)<|Ag<|BC Ah<|Aa.skip<|Ag<|Ax<|Af<|Ad (DR (i:=0) (Bl r_ r_) r_ r_ Ah r_ (by decide))<|Ad (F0 Ah r_ r_ r_)<|Ai (A9 8 _ Dr r_ r_) fun _=>Ai (Ba Ah Ah r_ r_ r_ r_) fun _=>Ac<|Ab r_<|Ad (AB Ah)<|Ad (Br Ah r_ r_ r_)<|Ao (AJ (t:=Ae) (u:=Ae) Ah r_ r_ (An _) r_ r_) fun x29=>Aa.op (Iy GU (CQ (Bl r_ r_) r_) (.one (Jf Ah))) fun x30=>Aj (Iz (t:=Ak) (n:=1) r_ r_ (.cons r_ Ah<| .nil _)) fun x31=>BJ (I3 r_ Ah r_ (MM Ah)) fun x32=>Ab r_<|A8<|Ac<|Ad (Bt (t:=T.int .i64) (y:=(1:Int)) (AW (I:=(IT.int .i64)) Ah AE) r_)<|Ab r_<|Ac<|AR (Γ':=⟨[(1, .cp 1 0),(6, .own 1006),(22, .kv 3400361),T8,T7],[(1, .cells [(53, .val Ae a)]),(1006, .row Ak x32),JP,CM,CL,CJ,JO]⟩) sB r_<|Af<|Ad (Bt (t:=T.b) (y:=false) (Av r_ Ah Ah) r_)<|Ag<|CF Ah<|AD<|AD<|AS<|Ag<|Ab r_<|Aa.frzRow 1006 r_ r_<|Aa.op (AN D5 (.cons Ah<| .one D1)) fun x33=>Ab r_<|Ad (Ap AE)<|Ac<|Aa.ret (.cons (Az r_)<| .one (Az r_))) (.alt (.one fun p6=>Ab r_<|Ad (BE Ah r_)<|Ad (BE Ah r_)<|Ai (A9 4 _ Iv r_ r_) fun _=>Ai (Ba Ah (Bl r_ r_) r_ r_ r_ r_) fun _=>
 Ad (Ap (Bl r_ r_))<|Ag<|Ad (AB Ah)<|Ad (Br Ah r_ r_ r_)<|Ai (SK (t:=Ak) (n:=1) 1006 r_ r_ (.cons r_ (Bl r_ r_)<| .nil _) r_) fun x34=>Ab r_<|Ag<|Af<|Ad (AB Ah)<|Ad (Br Ah r_ r_ r_)<|Ad (EU (n:=3) (Bl r_ r_) r_ r_)<|Ad (Ap AE)<|Ac<|Ax<|AR (Γ':=⟨[(1, .cp 1 0),(6, .own 1006),(22, .kv 3400641),bS,R1],[(1, .cells [(53, .val Ae a)]),(1006, .row Ak (.mk x34)),Fe,Bq,Bp,Bo,Dg,Df,De,Fd,DW,DV,DU]⟩) sB r_<|Af<|Ad (Bt (t:=T.b) (y:=true) (Av r_ Ah Ah) r_)<|Ag<|BC Ah<|Aa.skip<|Ag<|Ax<|Af<|Ad (DR (i:=0) (Bl r_ r_) r_ r_ Ah r_ (by decide))<|Ad (F0 Ah r_ r_ r_)<|Ai (A9 8 _ Dr r_ r_) fun _=>Ai (Ba Ah Ah r_ r_ r_ r_) fun _=>Ac<|Ab r_<|Ad (AB Ah)<|Ad (Br Ah r_ r_ r_)<|Ao (AJ (t:=Ae) (u:=Ae) Ah r_ r_ (An _) r_ r_) fun x35=>Aa.op (Iy QD (CQ (Bl r_ r_) r_) (.one (Jf Ah))) fun x36=>Aj (Iz (t:=Ak) (n:=1) r_ r_ (.cons r_ Ah<| .nil _)) fun x37=>BJ (I3 r_ Ah r_ (MM Ah)) fun x38=>Ab r_<|A8<|Ac<|Ad (Bt (t:=T.int .i64) (y:=(1:Int)) (AW (I:=(IT.int .i64)) Ah AE) r_)<|Ab r_<|Ac<|AR (Γ':=⟨[(1, .cp 1 0),(6, .own 1006),(22, .kv 3400641),bS,T7],[(1, .cells [(53, .val Ae a)]),(1006, .row Ak x38),Fe,Bq,Bp,Bo,Dg,Df,De,Fd,DW,DV,DU]⟩) sB r_<|Af<|Ad (Bt (t:=T.b) (y:=true) (Av r_ Ah Ah) r_)<|Ag<|BC Ah<|Aa.skip<|Ag<|Ax<|Af<|Ad (DR (i:=1) (Bl r_ r_) r_ r_ Ah r_ (by decide))<|Ad (F0 Ah r_ r_ r_)<|Ai (A9 8 _ Dr r_ r_) fun _=>Ai (Ba Ah Ah r_ r_ r_ r_) fun _=>Ac<|Ab r_<|Ad (AB Ah)<|Ad (Br Ah r_ r_ r_)<|Ao (AJ (t:=Ae) (u:=Ae) Ah r_ r_ (An _) r_ r_) fun x39=>Aa.op (Iy Pb (CQ (Bl r_ r_) r_) (.one (Jf Ah))) fun x40=>Aj (Iz (t:=Ak) (n:=1) r_ r_ (.cons r_ Ah<| .nil _)) fun x41=>
 BJ (I3 r_ Ah r_ (MM Ah)) fun x42=>Ab r_<|A8<|Ac<|Ad (Bt (t:=T.int .i64) (y:=(2:Int)) (AW (I:=(IT.int .i64)) Ah AE) r_)<|Ab r_<|Ac<|AR (Γ':=⟨[(1, .cp 1 0),(6, .own 1006),(22, .kv 3400641),bS,mF],[(1, .cells [(53, .val Ae a)]),(1006, .row Ak x42),Fe,Bq,Bp,Bo,Dg,Df,De,Fd,DW,DV,DU]⟩) sB r_<|Af<|Ad (Bt (t:=T.b) (y:=true) (Av r_ Ah Ah) r_)<|Ag<|BC Ah<|Aa.skip<|Ag<|Ax<|Af<|Ad (DR (i:=2) (Bl r_ r_) r_ r_ Ah r_ (by decide))<|Ad (F0 Ah r_ r_ r_)<|Ai (A9 8 _ Dr r_ r_) fun _=>Ai (Ba Ah Ah r_ r_ r_ r_) fun _=>Ac<|Ab r_<|Ad (AB Ah)<|Ad (Br Ah r_ r_ r_)<|Ao (AJ (t:=Ae) (u:=Ae) Ah r_ r_ (An _) r_ r_) fun x43=>Aa.op (Iy GU (CQ (Bl r_ r_) r_) (.one (Jf Ah))) fun x44=>Aj (Iz (t:=Ak) (n:=1) r_ r_ (.cons r_ Ah<| .nil _)) fun x45=>BJ (I3 r_ Ah r_ (MM Ah)) fun x46=>Ab r_<|A8<|Ac<|Ad (Bt (t:=T.int .i64) (y:=(3:Int)) (AW (I:=(IT.int .i64)) Ah AE) r_)<|Ab r_<|Ac<|AR (Γ':=⟨[(1, .cp 1 0),(6, .own 1006),(22, .kv 3400641),bS,(24, .val (T.int .i64) (3:Int))],[(1, .cells [(53, .val Ae a)]),(1006, .row Ak x46),Fe,Bq,Bp,Bo,Dg,Df,De,Fd,DW,DV,DU]⟩) sB r_<|Af<|Ad (Bt (t:=T.b) (y:=false) (Av r_ Ah Ah) r_)<|Ag<|CF Ah<|AD<|AD<|AS<|Ag<|Ab r_<|Aa.frzRow 1006 r_ r_<|Aa.op (AN D5 (.cons Ah<| .one D1)) fun x47=>Ab r_<|Ad (Ap AE)<|Ac<|Aa.ret (.cons (Az r_)<| .one (Az r_))) (.alt (.one fun p7=>Ab r_<|Ad (BE Ah r_)<|Ad (BE Ah r_)<|Ai (A9 4 _ Iv r_ r_) fun _=>Ai (Ba Ah (Bl r_ r_) r_ r_ r_ r_) fun _=>Ad (Ap (Bl r_ r_))<|Ag<|Ad (AB Ah)<|Ad (Br Ah r_ r_ r_)<|Ai (SK (t:=Ak) (n:=1) 1006 r_ r_ (.cons r_ (Bl r_ r_)<| .nil _) r_) fun x48=>
 Ab r_<|Ag<|Af<|Ad (AB Ah)<|Ad (Br Ah r_ r_ r_)<|Ad (EU (n:=2) (Bl r_ r_) r_ r_)<|Ad (Ap AE)<|Ac<|Ax<|AR (Γ':=⟨[(1, .cp 1 0),(6, .own 1006),(22, .kv 3400881),T6,R1],[(1, .cells [(53, .val Ae a)]),(1006, .row Ak (.mk x48)),Ha,DO,DN,DM,BX,BW,BV,GZ]⟩) sB r_<|Af<|Ad (Bt (t:=T.b) (y:=true) (Av r_ Ah Ah) r_)<|Ag<|BC Ah<|Aa.skip<|Ag<|Ax<|Af<|Ad (DR (i:=0) (Bl r_ r_) r_ r_ Ah r_ (by decide))<|Ad (F0 Ah r_ r_ r_)<|Ai (A9 8 _ Dr r_ r_) fun _=>Ai (Ba Ah Ah r_ r_ r_ r_) fun _=>Ac<|Ab r_<|Ad (AB Ah)<|Ad (Br Ah r_ r_ r_)<|Ao (AJ (t:=Ae) (u:=Ae) Ah r_ r_ (An _) r_ r_) fun x49=>Aa.op (Iy Pb (CQ (Bl r_ r_) r_) (.one (Jf Ah))) fun x50=>Aj (Iz (t:=Ak) (n:=1) r_ r_ (.cons r_ Ah<| .nil _)) fun x51=>BJ (I3 r_ Ah r_ (MM Ah)) fun x52=>Ab r_<|A8<|Ac<|Ad (Bt (t:=T.int .i64) (y:=(1:Int)) (AW (I:=(IT.int .i64)) Ah AE) r_)<|Ab r_<|Ac<|AR (Γ':=⟨[(1, .cp 1 0),(6, .own 1006),(22, .kv 3400881),T6,T7],[(1, .cells [(53, .val Ae a)]),(1006, .row Ak x52),Ha,DO,DN,DM,BX,BW,BV,GZ]⟩) sB r_<|Af<|Ad (Bt (t:=T.b) (y:=true) (Av r_ Ah Ah) r_)<|Ag<|BC Ah<|Aa.skip<|Ag<|Ax<|Af<|Ad (DR (i:=1) (Bl r_ r_) r_ r_ Ah r_ (by decide))<|Ad (F0 Ah r_ r_ r_)<|Ai (A9 8 _ Dr r_ r_) fun _=>Ai (Ba Ah Ah r_ r_ r_ r_) fun _=>Ac<|Ab r_<|Ad (AB Ah)<|Ad (Br Ah r_ r_ r_)<|Ao (AJ (t:=Ae) (u:=Ae) Ah r_ r_ (An _) r_ r_) fun x53=>Aa.op (Iy GU (CQ (Bl r_ r_) r_) (.one (Jf Ah))) fun x54=>Aj (Iz (t:=Ak) (n:=1) r_ r_ (.cons r_ Ah<| .nil _)) fun x55=>BJ (I3 r_ Ah r_ (MM Ah)) fun x56=>Ab r_<|A8<|Ac<|Ad (Bt (t:=T.int .i64) (y:=(2:Int)) (AW (I:=(IT.int .i64)) Ah AE) r_)<|
 Ab r_<|Ac<|AR (Γ':=⟨[(1, .cp 1 0),(6, .own 1006),(22, .kv 3400881),T6,mF],[(1, .cells [(53, .val Ae a)]),(1006, .row Ak x56),Ha,DO,DN,DM,BX,BW,BV,GZ]⟩) sB r_<|Af<|Ad (Bt (t:=T.b) (y:=false) (Av r_ Ah Ah) r_)<|Ag<|CF Ah<|AD<|AD<|AS<|Ag<|Ab r_<|Aa.frzRow 1006 r_ r_<|Aa.op (AN D5 (.cons Ah<| .one D1)) fun x57=>Ab r_<|Ad (Ap AE)<|Ac<|Aa.ret (.cons (Az r_)<| .one (Az r_))) (.alt (.one fun p8=>Ab r_<|Ad (BE Ah r_)<|Ad (BE Ah r_)<|Ai (A9 4 _ Iv r_ r_) fun _=>Ai (Ba Ah (Bl r_ r_) r_ r_ r_ r_) fun _=>Ad (Ap (Bl r_ r_))<|Ag<|Ad (AB Ah)<|Ad (Br Ah r_ r_ r_)<|Ai (SK (t:=Ak) (n:=1) 1006 r_ r_ (.cons r_ (Bl r_ r_)<| .nil _) r_) fun x58=>Ab r_<|Ag<|Af<|Ad (AB Ah)<|Ad (Br Ah r_ r_ r_)<|Ad (EU (n:=1) (Bl r_ r_) r_ r_)<|Ad (Ap AE)<|Ac<|Ax<|AR (Γ':=⟨[(1, .cp 1 0),(6, .own 1006),(22, .kv 3401081),T8,R1],[(1, .cells [(53, .val Ae a)]),(1006, .row Ak (.mk x58)),JN,CM,CL,CJ,JM]⟩) sB r_<|Af<|Ad (Bt (t:=T.b) (y:=true) (Av r_ Ah Ah) r_)<|Ag<|BC Ah<|Aa.skip<|Ag<|Ax<|Af<|Ad (DR (i:=0) (Bl r_ r_) r_ r_ Ah r_ (by decide))<|Ad (F0 Ah r_ r_ r_)<|Ai (A9 8 _ Dr r_ r_) fun _=>Ai (Ba Ah Ah r_ r_ r_ r_) fun _=>Ac<|Ab r_<|Ad (AB Ah)<|Ad (Br Ah r_ r_ r_)<|Ao (AJ (t:=Ae) (u:=Ae) Ah r_ r_ (An _) r_ r_) fun x59=>Aa.op (Iy GU (CQ (Bl r_ r_) r_) (.one (Jf Ah))) fun x60=>Aj (Iz (t:=Ak) (n:=1) r_ r_ (.cons r_ Ah<| .nil _)) fun x61=>BJ (I3 r_ Ah r_ (MM Ah)) fun x62=>Ab r_<|A8<|Ac<|Ad (Bt (t:=T.int .i64) (y:=(1:Int)) (AW (I:=(IT.int .i64)) Ah AE) r_)<|Ab r_<|Ac<|AR (Γ':=⟨[(1, .cp 1 0),(6, .own 1006),(22, .kv 3401081),T8,T7],[(1, .cells [(53, .val Ae a)]),(1006, .row Ak x62),JN,CM,CL,CJ,JM]⟩) sB r_<|
 Af<|Ad (Bt (t:=T.b) (y:=false) (Av r_ Ah Ah) r_)<|Ag<|CF Ah<|AD<|AD<|AS<|Ag<|Ab r_<|Aa.frzRow 1006 r_ r_<|Aa.op (AN D5 (.cons Ah<| .one D1)) fun x63=>Ab r_<|Ad (Ap AE)<|Ac<|Aa.ret (.cons (Az r_)<| .one (Az r_))) (.alt (.one fun p9=>Ab r_<|Ad (BE Ah r_)<|Ad (BE Ah r_)<|Ai (A9 4 _ Iv r_ r_) fun _=>Ai (Ba Ah (Bl r_ r_) r_ r_ r_ r_) fun _=>Ad (Ap (Bl r_ r_))<|Ag<|Ad (AB Ah)<|Ad (Br Ah r_ r_ r_)<|Ai (SK (t:=Ak) (n:=1) 1006 r_ r_ (.cons r_ (Bl r_ r_)<| .nil _) r_) fun x64=>Ab r_<|Ag<|Af<|Ad (AB Ah)<|Ad (Br Ah r_ r_ r_)<|Ad (EU (n:=1) (Bl r_ r_) r_ r_)<|Ad (Ap AE)<|Ac<|Ax<|AR (Γ':=⟨[(1, .cp 1 0),(6, .own 1006),(22, .kv 3401281),T8,R1],[(1, .cells [(53, .val Ae a)]),(1006, .row Ak (.mk x64)),JL,G7,G6,G5,JK]⟩) sB r_<|Af<|Ad (Bt (t:=T.b) (y:=true) (Av r_ Ah Ah) r_)<|Ag<|BC Ah<|Aa.skip<|Ag<|Ax<|Af<|Ad (DR (i:=0) (Bl r_ r_) r_ r_ Ah r_ (by decide))<|Ad (F0 Ah r_ r_ r_)<|Ai (A9 8 _ Dr r_ r_) fun _=>Ai (Ba Ah Ah r_ r_ r_ r_) fun _=>Ac<|Ab r_<|Ad (AB Ah)<|Ad (Br Ah r_ r_ r_)<|Ao (AJ (t:=Ae) (u:=Ae) Ah r_ r_ (An _) r_ r_) fun x65=>Aa.op (Iy V6 (CQ (Bl r_ r_) r_) (.one (Jf Ah))) fun x66=>Aj (Iz (t:=Ak) (n:=1) r_ r_ (.cons r_ Ah<| .nil _)) fun x67=>BJ (I3 r_ Ah r_ (MM Ah)) fun x68=>Ab r_<|A8<|Ac<|Ad (Bt (t:=T.int .i64) (y:=(1:Int)) (AW (I:=(IT.int .i64)) Ah AE) r_)<|Ab r_<|Ac<|AR (Γ':=⟨[(1, .cp 1 0),(6, .own 1006),(22, .kv 3401281),T8,T7],[(1, .cells [(53, .val Ae a)]),(1006, .row Ak x68),JL,G7,G6,G5,JK]⟩) sB r_<|Af<|Ad (Bt (t:=T.b) (y:=false) (Av r_ Ah Ah) r_)<|Ag<|CF Ah<|AD<|AD<|AS<|Ag<|Ab r_<|
 Aa.frzRow 1006 r_ r_<|Aa.op (AN D5 (.cons Ah<| .one D1)) fun x69=>Ab r_<|Ad (Ap AE)<|Ac<|Aa.ret (.cons (Az r_)<| .one (Az r_))) (.alt (.one fun p10=>Ab r_<|Ad (BE Ah r_)<|Ad (BE Ah r_)<|Ai (A9 4 _ Iv r_ r_) fun _=>Ai (Ba Ah (Bl r_ r_) r_ r_ r_ r_) fun _=>Ad (Ap (Bl r_ r_))<|Ag<|Ad (AB Ah)<|Ad (Br Ah r_ r_ r_)<|Ai (SK (t:=Ak) (n:=1) 1006 r_ r_ (.cons r_ (Bl r_ r_)<| .nil _) r_) fun x70=>Ab r_<|Ag<|Af<|Ad (AB Ah)<|Ad (Br Ah r_ r_ r_)<|Ad (EU (n:=2) (Bl r_ r_) r_ r_)<|Ad (Ap AE)<|Ac<|Ax<|AR (Γ':=⟨[(1, .cp 1 0),(6, .own 1006),(22, .kv 3401521),T6,R1],[(1, .cells [(53, .val Ae a)]),(1006, .row Ak (.mk x70)),GY,Bq,Bp,Bo,BX,BW,BV,GX]⟩) sB r_<|Af<|Ad (Bt (t:=T.b) (y:=true) (Av r_ Ah Ah) r_)<|Ag<|BC Ah<|Aa.skip<|Ag<|Ax<|Af<|Ad (DR (i:=0) (Bl r_ r_) r_ r_ Ah r_ (by decide))<|Ad (F0 Ah r_ r_ r_)<|Ai (A9 8 _ Dr r_ r_) fun _=>Ai (Ba Ah Ah r_ r_ r_ r_) fun _=>Ac<|Ab r_<|Ad (AB Ah)<|Ad (Br Ah r_ r_ r_)<|Ao (AJ (t:=Ae) (u:=Ae) Ah r_ r_ (An _) r_ r_) fun x71=>Aa.op (Iy QD (CQ (Bl r_ r_) r_) (.one (Jf Ah))) fun x72=>Aj (Iz (t:=Ak) (n:=1) r_ r_ (.cons r_ Ah<| .nil _)) fun x73=>BJ (I3 r_ Ah r_ (MM Ah)) fun x74=>Ab r_<|A8<|Ac<|Ad (Bt (t:=T.int .i64) (y:=(1:Int)) (AW (I:=(IT.int .i64)) Ah AE) r_)<|Ab r_<|Ac<|AR (Γ':=⟨[(1, .cp 1 0),(6, .own 1006),(22, .kv 3401521),T6,T7],[(1, .cells [(53, .val Ae a)]),(1006, .row Ak x74),GY,Bq,Bp,Bo,BX,BW,BV,GX]⟩) sB r_<|Af<|Ad (Bt (t:=T.b) (y:=true) (Av r_ Ah Ah) r_)<|Ag<|BC Ah<|Aa.skip<|Ag<|Ax<|Af<|Ad (DR (i:=1) (Bl r_ r_) r_ r_ Ah r_ (by decide))<|Ad (F0 Ah r_ r_ r_)<|
 Ai (A9 8 _ Dr r_ r_) fun _=>Ai (Ba Ah Ah r_ r_ r_ r_) fun _=>Ac<|Ab r_<|Ad (AB Ah)<|Ad (Br Ah r_ r_ r_)<|Ao (AJ (t:=Ae) (u:=Ae) Ah r_ r_ (An _) r_ r_) fun x75=>Aa.op (Iy GU (CQ (Bl r_ r_) r_) (.one (Jf Ah))) fun x76=>Aj (Iz (t:=Ak) (n:=1) r_ r_ (.cons r_ Ah<| .nil _)) fun x77=>BJ (I3 r_ Ah r_ (MM Ah)) fun x78=>Ab r_<|A8<|Ac<|Ad (Bt (t:=T.int .i64) (y:=(2:Int)) (AW (I:=(IT.int .i64)) Ah AE) r_)<|Ab r_<|Ac<|AR (Γ':=⟨[(1, .cp 1 0),(6, .own 1006),(22, .kv 3401521),T6,mF],[(1, .cells [(53, .val Ae a)]),(1006, .row Ak x78),GY,Bq,Bp,Bo,BX,BW,BV,GX]⟩) sB r_<|Af<|Ad (Bt (t:=T.b) (y:=false) (Av r_ Ah Ah) r_)<|Ag<|CF Ah<|AD<|AD<|AS<|Ag<|Ab r_<|Aa.frzRow 1006 r_ r_<|Aa.op (AN D5 (.cons Ah<| .one D1)) fun x79=>Ab r_<|Ad (Ap AE)<|Ac<|Aa.ret (.cons (Az r_)<| .one (Az r_))) (.one fun p11=>Ab r_<|Ad (BE Ah r_)<|Ad (BE Ah r_)<|Ai (A9 4 _ Iv r_ r_) fun _=>Ai (Ba Ah (Bl r_ r_) r_ r_ r_ r_) fun _=>Ad (Ap (Bl r_ r_))<|Ag<|Ad (AB Ah)<|Ad (Br Ah r_ r_ r_)<|Ai (SK (t:=Ak) (n:=1) 1006 r_ r_ (.cons r_ (Bl r_ r_)<| .nil _) r_) fun x80=>Ab r_<|Ag<|Af<|Ad (AB Ah)<|Ad (Br Ah r_ r_ r_)<|Ad (bC (Bl r_ r_))<|Ad (Ap AE)<|Ac<|Ax<|AR (Γ':=⟨[(1, .cp 1 0),(6, .own 1006),(22, .kv 3401561),(23, .val (T.int .i64) (0:Int)),R1],[(1, .cells [(53, .val Ae a)]),(1006, .row Ak (.mk x80)),PD]⟩) sB r_<|Af<|Ad (Bt (t:=T.b) (y:=false) (Av r_ Ah Ah) r_)<|Ag<|CF Ah<|AD<|AD<|AS<|Ag<|Ab r_<|Aa.frzRow 1006 r_ r_<|Aa.op (AN D5 (.cons Ah<| .one D1)) fun x81=>Ab r_<|Ad (Ap AE)<|Ac<|Aa.ret (.cons (Az r_)<| .one (Az r_))))))))))
theorem X8:Spec tb Hi [Ae] [Ak,(T.int .i64)] (fun a=>FQ a):=
 Spec.of bI r_ r_ r_ VF
noncomputable def Nu(_:Unit):Option Bool:=let x1:=(⟨5, .nil,At.z,(T.arr 32 T.u8).z,7⟩:Al);(FQ x1).bind fun x2=>(Cg (decide (x2.2=0)) (some (decide (x2.1=[100,114,111,112,32,55])))).bind fun x7=>some x7
noncomputable def XQ(a:CG []):Cw tb MF [] [T.b] a:=Af<|Ad (Ap DF)<|Ag<|Aj (C3 r_ r_ (.cons AT r_ AE<| .cons CO r_ AE<| .nil _)) fun x1=>Aa.op (Bn X8 (.one Ah)) fun x2=>Ab r_<|Ao (AY Ah r_) fun x3=>Ao (AY Ah r_) fun x4=>Ab r_<|Ab r_<|Ag<|Ab r_<|Aj (Av r_ Ah AE) fun x5=>Ab r_<|Aa.and 2 r_ r_ r_ (AF (Ap (Cs r_))<|AX (Hr Ah D1) fun x6=>Be.nil Ah) fun x7=>Ab r_<|Ac<|Aa.ret (.one (Az r_))
theorem RD:Spec tb GI [] [T.b] (fun a=>Nu ()):=
 Spec.of hE r_ r_ r_ XQ
noncomputable def EJ(a0:AH):Option Int:=(iter (fun(s1:Int)=>if(decide (s1≤6))=true then (if(decide (s1=1))=true then (some ():Option Unit).bind (fun(p12:Unit)=>some (.inl (()))) else if(decide (s1=2))=true then (some ():Option Unit).bind (fun(p14:Unit)=>(some ():Option Unit).bind (fun(p15:Unit)=>(some ():Option Unit).bind (fun(p16:Unit)=>some (.inr (.inl (())))))) else if(decide (s1=3))=true then (some ():Option Unit).bind (fun(p18:Unit)=>(some ():Option Unit).bind (fun(p19:Unit)=>some (.inr (.inr (.inl (())))))) else if(decide (s1=4))=true then (some ():Option Unit).bind (fun(p21:Unit)=>some (.inr (.inr (.inr (.inl (())))))) else if(decide (s1=5))=true then (some ():Option Unit).bind (fun(p23:Unit)=>some (.inr (.inr (.inr (.inr (.inl (()))))))) else if(decide (s1=6))=true then (some ():Option Unit).bind (fun(p25:Unit)=>(some ():Option Unit).bind (fun(p26:Unit)=>some (.inr (.inr (.inr (.inr (.inr (.inl (()))))))))) else some (.inr (.inr (.inr (.inr (.inr (.inr (()))))))):Option (Unit⊕(Unit⊕(Unit⊕(Unit⊕(Unit⊕(Unit⊕Unit))))))).bind (Sum.elim (fun(p4:Unit)=>if(decide ([114,101,112,108,121]=a0))=true then (some s1).map fun r=> .inr (.inr r) else some (.inl (IntKind.i64.wrap (s1+1)))) (Sum.elim (fun(p5:Unit)=>if(decide ([115,101,110,100]=a0))=true then (some s1).map fun r=> .inr (.inr r) else some (.inl (IntKind.i64.wrap (s1+1)))) (Sum.elim (fun(p6:Unit)=>let x31:=decide ([100,101,108,105,118,101,114]=a0);if x31=true then (some s1).map fun r=> .inr (.inr r) else some (.inl (IntKind.i64.wrap (s1+1)))) (Sum.elim (fun(p7:Unit)=>
 if(decide ([114,101,102,117,115,101]=a0))=true then (some s1).map fun r=> .inr (.inr r) else some (.inl (IntKind.i64.wrap (s1+1)))) (Sum.elim (fun(p8:Unit)=>if(decide ([100,114,111,112]=a0))=true then (some s1).map fun r=> .inr (.inr r) else some (.inl (IntKind.i64.wrap (s1+1)))) (Sum.elim (fun(p9:Unit)=>if(decide ([112,97,115,115]=a0))=true then (some s1).map fun r=> .inr (.inr r) else some (.inl (IntKind.i64.wrap (s1+1)))) (fun(p10:Unit)=>if(decide ([]=a0))=true then (some s1).map fun r=> .inr (.inr r) else some (.inl (IntKind.i64.wrap (s1+1)))))))))) else some (.inr (.inl ()))) 1).bind (Sum.elim (fun(p2:Unit)=>some 0) some)
noncomputable def VE(a:CG [Ak]):Cw tb Ly [Ak] [(T.int .i64)] a:=Af<|Ad (Ap AE)<|Ag<|Af<|Ad (Ap AE)<|Ac<|Ax<|Aa.loop (id:=0) (σ:=Int) (τ:=Unit) (fun s1=>⟨[(0, .val Ak a),(3, .val (T.int .i64) s1)],[]⟩) (fun p2=>⟨[],[]⟩) 1 sB (fun _=>r_) (fun s1=>Af<|Af<|Ab r_<|Aj (Av r_ Ah AE) fun x3=>Ac<|Aa.cond Ah (Aa.skip<|Ag<|Ax<|Af<|Ab r_<|Aa.inl (τ:=(Unit⊕(Unit⊕(Unit⊕(Unit⊕(Unit⊕(Unit⊕Unit))))))) (φs:=[.val (T.int .i64) s1]) (n:=2) (L:=[(0, .val Ak a),(3, .val (T.int .i64) s1)]) (Γr:=(Sum.elim (fun p4=>⟨[(0, .kv 3560080),(1, .kv 3560120)],[(2000000, .ghost (.val Ak a)),(2000003, .ghost (.val (T.int .i64) s1)),Uu,JP,Ut,Dd,CM,CL,CJ,JO]⟩) (Sum.elim (fun p5=>⟨[(0, .kv 3560080),(1, .kv 3560120)],[(2000000, .ghost (.val Ak a)),(2000003, .ghost (.val (T.int .i64) s1)),Us,Fe,Ur,Dd,Bq,Bp,Bo,Dg,Df,De,Fd,DW,DV,DU]⟩) (Sum.elim (fun p6=>⟨[(0, .kv 3560080),(1, .kv 3560120)],[(2000000, .ghost (.val Ak a)),(2000003, .ghost (.val (T.int .i64) s1)),Uq,Ha,Up,Dd,DO,DN,DM,BX,BW,BV,GZ]⟩) (Sum.elim (fun p7=>⟨[(0, .kv 3560080),(1, .kv 3560120)],[(2000000, .ghost (.val Ak a)),(2000003, .ghost (.val (T.int .i64) s1)),Uo,JN,Un,Dd,CM,CL,CJ,JM]⟩) (Sum.elim (fun p8=>⟨[(0, .kv 3560080),(1, .kv 3560120)],[(2000000, .ghost (.val Ak a)),(2000003, .ghost (.val (T.int .i64) s1)),Um,JL,Ul,Dd,G7,G6,G5,JK]⟩) (Sum.elim (fun p9=>⟨[(0, .kv 3560080),(1, .kv 3560120)],[(2000000, .ghost (.val Ak a)),(2000003, .ghost (.val (T.int .i64) s1)),Uk,GY,Uj,Dd,Bq,Bp,Bo,BX,BW,BV,GX]⟩) (fun p10=>⟨[(0, .kv 3560080),(1, .kv 3560120)],[(2000000, .ghost (.val Ak a)),(2000003, .ghost (.val (T.int .i64) s1)),Ui,PD,Uh,Ug]⟩)))))))) 2000000 (Sum.elim (fun p4=>⟨[R0,(0, .val Ak a),(3, .val (T.int .i64) s1)],[Uu,JP,Ut,Dd,CM,CL,CJ,JO]⟩) (Sum.elim (fun p5=>⟨[R0,(0, .val Ak a),(3, .val (T.int .i64) s1)],[Us,Fe,Ur,Dd,Bq,Bp,Bo,Dg,Df,De,Fd,DW,DV,DU]⟩) (Sum.elim (fun p6=>⟨[R0,(0, .val Ak a),(3, .val (T.int .i64) s1)],[Uq,Ha,Up,Dd,DO,DN,DM,BX,BW,BV,GZ]⟩) (Sum.elim (fun p7=>⟨[R0,(0, .val Ak a),(3, .val (T.int .i64) s1)],[Uo,JN,Un,Dd,CM,CL,CJ,JM]⟩) (Sum.elim (fun p8=>⟨[R0,(0, .val Ak a),(3, .val (T.int .i64) s1)],[Um,JL,Ul,Dd,G7,G6,G5,JK]⟩) (Sum.elim (fun p9=>⟨[R0,(0, .val Ak a),(3, .val (T.int .i64) s1)],[Uk,GY,Uj,Dd,Bq,Bp,Bo,BX,BW,BV,GX]⟩) (fun p10=>⟨[R0,(0, .val Ak a),(3, .val (T.int .i64) s1)],[Ui,PD,Uh,Ug]⟩))))))) I5 r_ r_ r_ (BN r_) (.cons (Jf Ah)<| .nil) sB r_ (
 Af<|Ai (A9 2 _ Iv r_ r_) fun _=>Ad (Ap DF)<|Ag<|Af<|Ab r_<|Ac<|Ax<|Af<|Aj (Av r_ Ah AE) fun x11=>Ab r_<|Ac<|Aa.cond Ah (Af<|Aa.inl (τ:=Unit) (φs:=[]) (n:=1) (L:=[(2, .cp 2 0)]) (Γr:=(fun p12=>⟨[Hx],[Cr,(2000000, .ghost (.val Ak a)),(2000003, .ghost (.val (T.int .i64) s1)),F1,CM,CL,CJ]⟩)) 2100000 (fun p12=>⟨[AaN,(2, .cp 2 0)],[Cr,(2000000, .ghost (.val Ak a)),(2000003, .ghost (.val (T.int .i64) s1)),CM,CL,CJ]⟩) BP r_ r_ r_ (BN r_) (.nil) sB r_ (Af<|Ai (A9 0 _ Dr r_ r_) fun _=>Ag<|Bg (Bz (φs:=[.fnv (.func AZ) [] [], .fnv (.func Bc) [] [], .fnv (.func Bb) [] []]) 3600040 (.cons B4<| .cons B4<| .cons B4<| .nil) r_ r_ sB (js:=[3600040,3600041,3600042]) r_)<|Ai (Ba Ah Ah r_ r_ r_ r_) fun _=>Ac<|A0 () (.cons (DH r_ r_ r_ r_)<| .nil) sB) (fun p12=>Au sB r_ (.one r_) sB sB) (.one fun p12=>Ai (EZ (l:=[[3600040,3600041,3600042]]) 20001008 (.cons Ah r_<| .nil) r_ r_) fun _=>Bg (Bz (φs:=[.val Ak [114,101,112,108,121], .own 20001008]) 3400360 (.cons D1<| .cons Ah<| .nil) r_ r_ sB (js:=[3400360,3400361]) r_)<|Ai (Ba Ah Ah r_ r_ r_ r_) fun _=>Ad (Ap DF)<|Ac<|BU (js:=[3400360,3400361]) 3560080 2 r_ r_ r_ r_<|BT 3560120 3 r_ r_ r_<|A0 (.inl (())) (.cons (Eo (js:=[3400360,3400361]) (j:=2) (j':=3560080) r_ r_ r_ r_ r_)<| .cons (Dc r_)<| .nil) sB)) (Af<|Aj (Av r_ Ah AE) fun x13=>Ab r_<|Ac<|Aa.cond Ah (Af<|Aa.inl (τ:=Unit) (φs:=[]) (n:=1) (L:=[(2, .cp 2 0)]) (Γr:=(fun p14=>⟨[Hx],[Cr,(2000000, .ghost (.val Ak a)),(2000003, .ghost (.val (T.int .i64) s1)),F1,Bq,Bp,Bo]⟩)) 2100000 (fun p14=>⟨[Jb,(2, .cp 2 0)],[Cr,(2000000, .ghost (.val Ak a)),(2000003, .ghost (.val (T.int .i64) s1)),Bq,Bp,Bo]⟩) HK r_ r_ r_ (BN r_) (.nil) sB r_ (
 Af<|Ai (A9 0 _ Dr r_ r_) fun _=>Ag<|Bg (Bz (φs:=[.fnv (.func Cv) [] [], .fnv (.func C8) [] [], .fnv (.func C7) [] []]) 3600040 (.cons B4<| .cons B4<| .cons B4<| .nil) r_ r_ sB (js:=[3600040,3600041,3600042]) r_)<|Ai (Ba Ah Ah r_ r_ r_ r_) fun _=>Ac<|A0 () (.cons (DH r_ r_ r_ r_)<| .nil) sB) (fun p14=>Au sB r_ (.one r_) sB sB) (.one fun p14=>Aa.inl (τ:=Unit) (φs:=[]) (n:=1) (L:=[(2, .cp 2 0),Jb]) (Γr:=(fun p15=>⟨[OK],[Cr,(2000000, .ghost (.val Ak a)),(2000003, .ghost (.val (T.int .i64) s1)),F1,Uv,Bq,Bp,Bo,Dg,Df,De]⟩)) 2100000 (fun p15=>⟨[OL,(2, .cp 2 0),Jb],[Cr,(2000000, .ghost (.val Ak a)),(2000003, .ghost (.val (T.int .i64) s1)),Bq,Bp,Bo,Dg,Df,De]⟩) G3 r_ r_ r_ (BN r_) (.nil) sB r_ (Af<|Ai (A9 0 _ Dr r_ r_) fun _=>Ag<|Bg (Bz (φs:=[.fnv (.func BS) [] [], .fnv (.func Cj) [] [], .fnv (.func Ci) [] []]) 13600040 (.cons B4<| .cons B4<| .cons B4<| .nil) r_ r_ sB (js:=[13600040,13600041,13600042]) r_)<|Ai (Ba Ah Ah r_ r_ r_ r_) fun _=>Ac<|A0 () (.cons (DH r_ r_ r_ r_)<| .nil) sB) (fun p15=>Au sB r_ (.one r_) sB sB) (.one fun p15=>Aa.inl (τ:=Unit) (φs:=[]) (n:=1) (L:=[(2, .cp 2 0),Jb,OL]) (Γr:=(fun p16=>⟨[oV],[Cr,(2000000, .ghost (.val Ak a)),(2000003, .ghost (.val (T.int .i64) s1)),F1,Uv,oU,Bq,Bp,Bo,Dg,Df,De,DW,DV,DU]⟩)) 2100000 (fun p16=>⟨[oW,(2, .cp 2 0),Jb,OL],[Cr,(2000000, .ghost (.val Ak a)),(2000003, .ghost (.val (T.int .i64) s1)),Bq,Bp,Bo,Dg,Df,De,DW,DV,DU]⟩) BP r_ r_ r_ (BN r_) (.nil) sB r_ (Af<|Ai (A9 0 _ Dr r_ r_) fun _=>Ag<|Bg (Bz (φs:=[.fnv (.func AZ) [] [], .fnv (.func Bc) [] [], .fnv (.func Bb) [] []]) 23600040 (.cons B4<| .cons B4<| .cons B4<| .nil) r_ r_ sB (js:=[23600040,23600041,23600042]) r_)<|
 Ai (Ba Ah Ah r_ r_ r_ r_) fun _=>Ac<|A0 () (.cons (DH r_ r_ r_ r_)<| .nil) sB) (fun p16=>Au sB r_ (.one r_) sB sB) (.one fun p16=>Ai (EZ (l:=[[3600040,3600041,3600042],[13600040,13600041,13600042],[23600040,23600041,23600042]]) 20001015 (.cons Ah r_<| .cons Ah r_<| .cons Ah r_<| .nil) r_ r_) fun _=>Bg (Bz (φs:=[.val Ak [115,101,110,100], .own 20001015]) 3400640 (.cons D1<| .cons Ah<| .nil) r_ r_ sB (js:=[3400640,3400641]) r_)<|Ai (Ba Ah Ah r_ r_ r_ r_) fun _=>Ad (Ap DF)<|Ac<|BU (js:=[3400640,3400641]) 3560080 2 r_ r_ r_ r_<|BT 3560120 3 r_ r_ r_<|A0 (.inr (.inl (()))) (.cons (Eo (js:=[3400640,3400641]) (j:=2) (j':=3560080) r_ r_ r_ r_ r_)<| .cons (Dc r_)<| .nil) sB)))) (Af<|Aj (Av r_ Ah AE) fun x17=>Ab r_<|Ac<|Aa.cond Ah (Af<|Aa.inl (τ:=Unit) (φs:=[]) (n:=1) (L:=[(2, .cp 2 0)]) (Γr:=(fun p18=>⟨[Hx],[Cr,(2000000, .ghost (.val Ak a)),(2000003, .ghost (.val (T.int .i64) s1)),F1,DO,DN,DM]⟩)) 2100000 (fun p18=>⟨[OJ,(2, .cp 2 0)],[Cr,(2000000, .ghost (.val Ak a)),(2000003, .ghost (.val (T.int .i64) s1)),DO,DN,DM]⟩) G3 r_ r_ r_ (BN r_) (.nil) sB r_ (Af<|Ai (A9 0 _ Dr r_ r_) fun _=>Ag<|Bg (Bz (φs:=[.fnv (.func BS) [] [], .fnv (.func Cj) [] [], .fnv (.func Ci) [] []]) 3600040 (.cons B4<| .cons B4<| .cons B4<| .nil) r_ r_ sB (js:=[3600040,3600041,3600042]) r_)<|Ai (Ba Ah Ah r_ r_ r_ r_) fun _=>Ac<|A0 () (.cons (DH r_ r_ r_ r_)<| .nil) sB) (fun p18=>Au sB r_ (.one r_) sB sB) (.one fun p18=>Aa.inl (τ:=Unit) (φs:=[]) (n:=1) (L:=[(2, .cp 2 0),OJ]) (Γr:=(fun p19=>⟨[OK],[Cr,(2000000, .ghost (.val Ak a)),(2000003, .ghost (.val (T.int .i64) s1)),F1,oS,DO,DN,DM,BX,BW,BV]⟩)) 2100000 (fun p19=>⟨[oT,(2, .cp 2 0),OJ],[Cr,(2000000, .ghost (.val Ak a)),(2000003, .ghost (.val (T.int .i64) s1)),DO,DN,DM,BX,BW,BV]⟩) BP r_ r_ r_ (BN r_) (.nil) sB r_ (
 Af<|Ai (A9 0 _ Dr r_ r_) fun _=>Ag<|Bg (Bz (φs:=[.fnv (.func AZ) [] [], .fnv (.func Bc) [] [], .fnv (.func Bb) [] []]) 13600040 (.cons B4<| .cons B4<| .cons B4<| .nil) r_ r_ sB (js:=[13600040,13600041,13600042]) r_)<|Ai (Ba Ah Ah r_ r_ r_ r_) fun _=>Ac<|A0 () (.cons (DH r_ r_ r_ r_)<| .nil) sB) (fun p19=>Au sB r_ (.one r_) sB sB) (.one fun p19=>Ai (EZ (l:=[[3600040,3600041,3600042],[13600040,13600041,13600042]]) 20001021 (.cons Ah r_<| .cons Ah r_<| .nil) r_ r_) fun _=>Bg (Bz (φs:=[.val Ak [100,101,108,105,118,101,114], .own 20001021]) 3400880 (.cons D1<| .cons Ah<| .nil) r_ r_ sB (js:=[3400880,3400881]) r_)<|Ai (Ba Ah Ah r_ r_ r_ r_) fun _=>Ad (Ap DF)<|Ac<|BU (js:=[3400880,3400881]) 3560080 2 r_ r_ r_ r_<|BT 3560120 3 r_ r_ r_<|A0 (.inr (.inr (.inl (())))) (.cons (Eo (js:=[3400880,3400881]) (j:=2) (j':=3560080) r_ r_ r_ r_ r_)<| .cons (Dc r_)<| .nil) sB))) (Af<|Aj (Av r_ Ah AE) fun x20=>Ab r_<|Ac<|Aa.cond Ah (Af<|Aa.inl (τ:=Unit) (φs:=[]) (n:=1) (L:=[(2, .cp 2 0)]) (Γr:=(fun p21=>⟨[Hx],[Cr,(2000000, .ghost (.val Ak a)),(2000003, .ghost (.val (T.int .i64) s1)),F1,CM,CL,CJ]⟩)) 2100000 (fun p21=>⟨[oR,(2, .cp 2 0)],[Cr,(2000000, .ghost (.val Ak a)),(2000003, .ghost (.val (T.int .i64) s1)),CM,CL,CJ]⟩) BP r_ r_ r_ (BN r_) (.nil) sB r_ (Af<|Ai (A9 0 _ Dr r_ r_) fun _=>Ag<|Bg (Bz (φs:=[.fnv (.func AZ) [] [], .fnv (.func Bc) [] [], .fnv (.func Bb) [] []]) 3600040 (.cons B4<| .cons B4<| .cons B4<| .nil) r_ r_ sB (js:=[3600040,3600041,3600042]) r_)<|Ai (Ba Ah Ah r_ r_ r_ r_) fun _=>Ac<|A0 () (.cons (DH r_ r_ r_ r_)<| .nil) sB) (fun p21=>Au sB r_ (.one r_) sB sB) (.one fun p21=>
 Ai (EZ (l:=[[3600040,3600041,3600042]]) 20001026 (.cons Ah r_<| .nil) r_ r_) fun _=>Bg (Bz (φs:=[.val Ak [114,101,102,117,115,101], .own 20001026]) 3401080 (.cons D1<| .cons Ah<| .nil) r_ r_ sB (js:=[3401080,3401081]) r_)<|Ai (Ba Ah Ah r_ r_ r_ r_) fun _=>Ad (Ap DF)<|Ac<|BU (js:=[3401080,3401081]) 3560080 2 r_ r_ r_ r_<|BT 3560120 3 r_ r_ r_<|A0 (.inr (.inr (.inr (.inl (()))))) (.cons (Eo (js:=[3401080,3401081]) (j:=2) (j':=3560080) r_ r_ r_ r_ r_)<| .cons (Dc r_)<| .nil) sB)) (Af<|Aj (Av r_ Ah AE) fun x22=>Ab r_<|Ac<|Aa.cond Ah (Af<|Aa.inl (τ:=Unit) (φs:=[]) (n:=1) (L:=[(2, .cp 2 0)]) (Γr:=(fun p23=>⟨[Hx],[Cr,(2000000, .ghost (.val Ak a)),(2000003, .ghost (.val (T.int .i64) s1)),F1,G7,G6,G5]⟩)) 2100000 (fun p23=>⟨[oQ,(2, .cp 2 0)],[Cr,(2000000, .ghost (.val Ak a)),(2000003, .ghost (.val (T.int .i64) s1)),G7,G6,G5]⟩) M0 r_ r_ r_ (BN r_) (.nil) sB r_ (Af<|Ai (A9 0 _ Dr r_ r_) fun _=>Ag<|Bg (Bz (φs:=[.fnv (.func Dk) [] [], .fnv (.func D3) [] [], .fnv (.func D2) [] []]) 3600040 (.cons B4<| .cons B4<| .cons B4<| .nil) r_ r_ sB (js:=[3600040,3600041,3600042]) r_)<|Ai (Ba Ah Ah r_ r_ r_ r_) fun _=>Ac<|A0 () (.cons (DH r_ r_ r_ r_)<| .nil) sB) (fun p23=>Au sB r_ (.one r_) sB sB) (.one fun p23=>Ai (EZ (l:=[[3600040,3600041,3600042]]) 20001031 (.cons Ah r_<| .nil) r_ r_) fun _=>Bg (Bz (φs:=[.val Ak [100,114,111,112], .own 20001031]) 3401280 (.cons D1<| .cons Ah<| .nil) r_ r_ sB (js:=[3401280,3401281]) r_)<|Ai (Ba Ah Ah r_ r_ r_ r_) fun _=>Ad (Ap DF)<|Ac<|BU (js:=[3401280,3401281]) 3560080 2 r_ r_ r_ r_<|BT 3560120 3 r_ r_ r_<|A0 (.inr (.inr (.inr (.inr (.inl (())))))) (.cons (Eo (js:=[3401280,3401281]) (j:=2) (j':=3560080) r_ r_ r_ r_ r_)<| .cons (Dc r_)<| .nil) sB)) (
 Af<|Aj (Av r_ Ah AE) fun x24=>Ab r_<|Ac<|Aa.cond Ah (Af<|Aa.inl (τ:=Unit) (φs:=[]) (n:=1) (L:=[(2, .cp 2 0)]) (Γr:=(fun p25=>⟨[Hx],[Cr,(2000000, .ghost (.val Ak a)),(2000003, .ghost (.val (T.int .i64) s1)),F1,Bq,Bp,Bo]⟩)) 2100000 (fun p25=>⟨[OI,(2, .cp 2 0)],[Cr,(2000000, .ghost (.val Ak a)),(2000003, .ghost (.val (T.int .i64) s1)),Bq,Bp,Bo]⟩) HK r_ r_ r_ (BN r_) (.nil) sB r_ (Af<|Ai (A9 0 _ Dr r_ r_) fun _=>Ag<|Bg (Bz (φs:=[.fnv (.func Cv) [] [], .fnv (.func C8) [] [], .fnv (.func C7) [] []]) 3600040 (.cons B4<| .cons B4<| .cons B4<| .nil) r_ r_ sB (js:=[3600040,3600041,3600042]) r_)<|Ai (Ba Ah Ah r_ r_ r_ r_) fun _=>Ac<|A0 () (.cons (DH r_ r_ r_ r_)<| .nil) sB) (fun p25=>Au sB r_ (.one r_) sB sB) (.one fun p25=>Aa.inl (τ:=Unit) (φs:=[]) (n:=1) (L:=[(2, .cp 2 0),OI]) (Γr:=(fun p26=>⟨[OK],[Cr,(2000000, .ghost (.val Ak a)),(2000003, .ghost (.val (T.int .i64) s1)),F1,oO,Bq,Bp,Bo,BX,BW,BV]⟩)) 2100000 (fun p26=>⟨[oP,(2, .cp 2 0),OI],[Cr,(2000000, .ghost (.val Ak a)),(2000003, .ghost (.val (T.int .i64) s1)),Bq,Bp,Bo,BX,BW,BV]⟩) BP r_ r_ r_ (BN r_) (.nil) sB r_ (Af<|Ai (A9 0 _ Dr r_ r_) fun _=>Ag<|Bg (Bz (φs:=[.fnv (.func AZ) [] [], .fnv (.func Bc) [] [], .fnv (.func Bb) [] []]) 13600040 (.cons B4<| .cons B4<| .cons B4<| .nil) r_ r_ sB (js:=[13600040,13600041,13600042]) r_)<|Ai (Ba Ah Ah r_ r_ r_ r_) fun _=>Ac<|A0 () (.cons (DH r_ r_ r_ r_)<| .nil) sB) (fun p26=>Au sB r_ (.one r_) sB sB) (.one fun p26=>Ai (EZ (l:=[[3600040,3600041,3600042],[13600040,13600041,13600042]]) 20001037 (.cons Ah r_<| .cons Ah r_<| .nil) r_ r_) fun _=>
 Bg (Bz (φs:=[.val Ak [112,97,115,115], .own 20001037]) 3401520 (.cons D1<| .cons Ah<| .nil) r_ r_ sB (js:=[3401520,3401521]) r_)<|Ai (Ba Ah Ah r_ r_ r_ r_) fun _=>Ad (Ap DF)<|Ac<|BU (js:=[3401520,3401521]) 3560080 2 r_ r_ r_ r_<|BT 3560120 3 r_ r_ r_<|A0 (.inr (.inr (.inr (.inr (.inr (.inl (()))))))) (.cons (Eo (js:=[3401520,3401521]) (j:=2) (j':=3560080) r_ r_ r_ r_ r_)<| .cons (Dc r_)<| .nil) sB))) (Aa.skip<|A8<|Ag<|Bg (cO (zero:=[.s [], .nils]) (φs:=[.val Ak Ak.z, .con (.nils)]) 3401560 (fun _ _ _ _=>⟨(.inr ⟨r_,Ak.hz _ _⟩),⟨r_,r_,r_⟩,trivial⟩) r_ r_ sB (js:=[3401560,3401561]) r_)<|Ai (Ba Ah Ah r_ r_ r_ r_) fun _=>Ad (Ap DF)<|Ac<|BU (js:=[3401560,3401561]) 3560080 2 r_ r_ r_ r_<|BT 3560120 3 r_ r_ r_<|A0 (.inr (.inr (.inr (.inr (.inr (.inr (()))))))) (.cons (Eo (js:=[3401560,3401561]) (j:=2) (j':=3560080) r_ r_ r_ r_ r_)<| .cons (Dc r_)<| .nil) sB))))))) (DQ (fun p4=>Au sB r_ (.kvs r_ (by intro i p h;match i,h with|0,h=>(cases h;rfl)|1,h=>(cases h;rfl)|(_+2),h=>simp at h)) sB sB) (DQ (fun p5=>Au sB r_ (.kvs r_ (by intro i p h;match i,h with|0,h=>(cases h;rfl)|1,h=>(cases h;rfl)|(_+2),h=>simp at h)) sB sB) (DQ (fun p6=>Au sB r_ (.kvs r_ (by intro i p h;match i,h with|0,h=>(cases h;rfl)|1,h=>(cases h;rfl)|(_+2),h=>simp at h)) sB sB) (DQ (fun p7=>Au sB r_ (.kvs r_ (by intro i p h;match i,h with|0,h=>(cases h;rfl)|1,h=>(cases h;rfl)|(_+2),h=>simp at h)) sB sB) (DQ (fun p8=>Au sB r_ (.kvs r_ (by intro i p h;match i,h with|0,h=>(cases h;rfl)|1,h=>(cases h;rfl)|(_+2),h=>simp at h)) sB sB) (DQ (fun p9=>Au sB r_ (.kvs r_ (by intro i p h;match i,h with|0,h=>(cases h;rfl)|1,h=>(cases h;rfl)|(_+2),h=>simp at h)) sB sB) (fun p10=>Au sB r_ (.kvs r_ (by intro i p h;match i,h with|0,h=>(cases h;rfl)|1,h=>(cases h;rfl)|(_+2),h=>simp at h)) sB sB))))))) (.alt (.one fun p4=>
 Ab r_<|Ad (BE Ah r_)<|Ad (BE Ah r_)<|Ai (A9 4 _ Iv r_ r_) fun _=>Ai (Ba Ah (Bl r_ r_) r_ r_ r_ r_) fun _=>Ad (Ap (Bl r_ r_))<|Ag<|Ad (AB Ah)<|Ad (Br Ah r_ r_ r_)<|Ab r_<|Aj (Hr (Bl r_ r_) Ah) fun x27=>Ac<|Aa.cond Ah (Af<|Ab r_<|Ab r_<|Ac<|BB<|Aa.ret (.one (Az r_))) (Aa.skip<|A8<|Ac<|Ab r_<|Aj (AW (I:=(IT.int .i64)) Ah AE) fun x28=>Ab r_<|Aa.next x28 sB)) (.alt (.one fun p5=>Ab r_<|Ad (BE Ah r_)<|Ad (BE Ah r_)<|Ai (A9 4 _ Iv r_ r_) fun _=>Ai (Ba Ah (Bl r_ r_) r_ r_ r_ r_) fun _=>Ad (Ap (Bl r_ r_))<|Ag<|Ad (AB Ah)<|Ad (Br Ah r_ r_ r_)<|Ab r_<|Aj (Hr (Bl r_ r_) Ah) fun x29=>Ac<|Aa.cond Ah (Af<|Ab r_<|Ab r_<|Ac<|BB<|Aa.ret (.one (Az r_))) (Aa.skip<|A8<|Ac<|Ab r_<|Aj (AW (I:=(IT.int .i64)) Ah AE) fun x30=>Ab r_<|Aa.next x30 sB)) (.alt (.one fun p6=>Ab r_<|Ad (BE Ah r_)<|Ad (BE Ah r_)<|Ai (A9 4 _ Iv r_ r_) fun _=>Ai (Ba Ah (Bl r_ r_) r_ r_ r_ r_) fun _=>Ad (Ap (Bl r_ r_))<|Ag<|Ad (AB Ah)<|Ad (Br Ah r_ r_ r_)<|Ab r_<|Aj (Hr (Bl r_ r_) Ah) fun x31=>Ac<|Aa.cond Ah (Af<|Ab r_<|Ab r_<|Ac<|BB<|Aa.ret (.one (Az r_))) (Aa.skip<|A8<|Ac<|Ab r_<|Aj (AW (I:=(IT.int .i64)) Ah AE) fun x32=>Ab r_<|Aa.next x32 sB)) (.alt (.one fun p7=>Ab r_<|Ad (BE Ah r_)<|Ad (BE Ah r_)<|Ai (A9 4 _ Iv r_ r_) fun _=>Ai (Ba Ah (Bl r_ r_) r_ r_ r_ r_) fun _=>Ad (Ap (Bl r_ r_))<|Ag<|Ad (AB Ah)<|Ad (Br Ah r_ r_ r_)<|Ab r_<|Aj (Hr (Bl r_ r_) Ah) fun x33=>Ac<|Aa.cond Ah (Af<|Ab r_<|Ab r_<|Ac<|BB<|Aa.ret (.one (Az r_))) (Aa.skip<|A8<|Ac<|Ab r_<|Aj (AW (I:=(IT.int .i64)) Ah AE) fun x34=>Ab r_<|Aa.next x34 sB)) (.alt (.one fun p8=>
 Ab r_<|Ad (BE Ah r_)<|Ad (BE Ah r_)<|Ai (A9 4 _ Iv r_ r_) fun _=>Ai (Ba Ah (Bl r_ r_) r_ r_ r_ r_) fun _=>Ad (Ap (Bl r_ r_))<|Ag<|Ad (AB Ah)<|Ad (Br Ah r_ r_ r_)<|Ab r_<|Aj (Hr (Bl r_ r_) Ah) fun x35=>Ac<|Aa.cond Ah (Af<|Ab r_<|Ab r_<|Ac<|BB<|Aa.ret (.one (Az r_))) (Aa.skip<|A8<|Ac<|Ab r_<|Aj (AW (I:=(IT.int .i64)) Ah AE) fun x36=>Ab r_<|Aa.next x36 sB)) (.alt (.one fun p9=>Ab r_<|Ad (BE Ah r_)<|Ad (BE Ah r_)<|Ai (A9 4 _ Iv r_ r_) fun _=>Ai (Ba Ah (Bl r_ r_) r_ r_ r_ r_) fun _=>Ad (Ap (Bl r_ r_))<|Ag<|Ad (AB Ah)<|Ad (Br Ah r_ r_ r_)<|Ab r_<|Aj (Hr (Bl r_ r_) Ah) fun x37=>Ac<|Aa.cond Ah (Af<|Ab r_<|Ab r_<|Ac<|BB<|Aa.ret (.one (Az r_))) (Aa.skip<|A8<|Ac<|Ab r_<|Aj (AW (I:=(IT.int .i64)) Ah AE) fun x38=>Ab r_<|Aa.next x38 sB)) (.one fun p10=>Ab r_<|Ad (BE Ah r_)<|Ad (BE Ah r_)<|Ai (A9 4 _ Iv r_ r_) fun _=>Ai (Ba Ah (Bl r_ r_) r_ r_ r_ r_) fun _=>Ad (Ap (Bl r_ r_))<|Ag<|Ad (AB Ah)<|Ad (Br Ah r_ r_ r_)<|Ab r_<|Aj (Hr (Bl r_ r_) Ah) fun x39=>Ac<|Aa.cond Ah (Af<|Ab r_<|Ab r_<|Ac<|BB<|Aa.ret (.one (Az r_))) (Aa.skip<|A8<|Ac<|Ab r_<|Aj (AW (I:=(IT.int .i64)) Ah AE) fun x40=>Ab r_<|Aa.next x40 sB))))))))) (AD<|C1 () sB)) (fun p2=>AS<|Ag<|Ad (Ap AE)<|Ac<|Aa.ret (.one (Az r_)))
theorem X7:Spec tb Hh [Ak] [(T.int .i64)] (fun a=>EJ a):=
 Spec.of bH r_ r_ r_ VE
noncomputable def CB(a0:AH):Option (Al×Int):=(DC ([32]:AH) 0).bind fun x2=>(IS a0 x2).bind fun x3=>(DC x3.l 0).bind fun x4=>(EJ x4).bind fun x6=>let x7:=(⟨x6, .nil,At.z,(T.arr 32 T.u8).z,0⟩:Al);(if(decide (x7.Kind=1))=true then (some ():Option Unit).bind (fun(p19:Unit)=>some (.inl (()))) else if(decide (x7.Kind=2))=true then (some ():Option Unit).bind (fun(p21:Unit)=>(some ():Option Unit).bind (fun(p22:Unit)=>(some ():Option Unit).bind (fun(p23:Unit)=>some (.inr (.inl (())))))) else if(decide (x7.Kind=3))=true then (some ():Option Unit).bind (fun(p25:Unit)=>(some ():Option Unit).bind (fun(p26:Unit)=>some (.inr (.inr (.inl (())))))) else if(decide (x7.Kind=4))=true then (some ():Option Unit).bind (fun(p28:Unit)=>some (.inr (.inr (.inr (.inl (())))))) else if(decide (x7.Kind=5))=true then (some ():Option Unit).bind (fun(p30:Unit)=>some (.inr (.inr (.inr (.inr (.inl (()))))))) else if(decide (x7.Kind=6))=true then (some ():Option Unit).bind (fun(p32:Unit)=>(some ():Option Unit).bind (fun(p33:Unit)=>some (.inr (.inr (.inr (.inr (.inr (.inl (()))))))))) else some (.inr (.inr (.inr (.inr (.inr (.inr (()))))))):Option (Unit⊕(Unit⊕(Unit⊕(Unit⊕(Unit⊕(Unit⊕Unit))))))).bind (Sum.elim (fun(p11:Unit)=>if(!true)=true then let x35:=(⟨0, .nil,At.z,(T.arr 32 T.u8).z,0⟩:Al);some (x35,12) else let x39:= !decide (IntKind.i64.wrap ((x3.l.length:Int)-1)=1);if x39=true then let x40:=(⟨0, .nil,At.z,(T.arr 32 T.u8).z,0⟩:Al);some (x40,5) else (DC x3.l 1).bind fun x42=>((FE x42).bind fun x45=>some (x45.2,{x7 with Bytes:=x45.1})).bind (fun(p44:(Int×Al))=>
 if(!decide (p44.1=0))=true then let x50:=(⟨0, .nil,At.z,(T.arr 32 T.u8).z,0⟩:Al);some (x50,p44.1) else some (p44.2,0))) (Sum.elim (fun(p12:Unit)=>if(!true)=true then let x55:=(⟨0, .nil,At.z,(T.arr 32 T.u8).z,0⟩:Al);some (x55,12) else let x59:= !decide (IntKind.i64.wrap ((x3.l.length:Int)-1)=3);if x59=true then let x60:=(⟨0, .nil,At.z,(T.arr 32 T.u8).z,0⟩:Al);some (x60,5) else (DC x3.l 1).bind fun x62=>((HH x62).bind fun x65=>some (x65.2,{x7 with To:=x65.1})).bind (fun(p64:(Int×Al))=>if(!decide (p64.1=0))=true then let x70:=(⟨0, .nil,At.z,(T.arr 32 T.u8).z,0⟩:Al);some (x70,p64.1) else (DC x3.l 2).bind fun x72=>((Ix x72).bind fun x75=>some (x75.2,{p64.2 with Key:=x75.1})).bind (fun(p74:(Int×Al))=>if(!decide (p74.1=0))=true then let x80:=(⟨0, .nil,At.z,(T.arr 32 T.u8).z,0⟩:Al);some (x80,p74.1) else (DC x3.l 3).bind fun x82=>((FE x82).bind fun x85=>some (x85.2,{p74.2 with Bytes:=x85.1})).bind (fun(p84:(Int×Al))=>if(!decide (p84.1=0))=true then let x90:=(⟨0, .nil,At.z,(T.arr 32 T.u8).z,0⟩:Al);some (x90,p84.1) else some (p84.2,0))))) (Sum.elim (fun(p13:Unit)=>if(!true)=true then let x95:=(⟨0, .nil,At.z,(T.arr 32 T.u8).z,0⟩:Al);some (x95,12) else let x99:= !decide (IntKind.i64.wrap ((x3.l.length:Int)-1)=2);if x99=true then let x100:=(⟨0, .nil,At.z,(T.arr 32 T.u8).z,0⟩:Al);some (x100,5) else (DC x3.l 1).bind fun x102=>((Ix x102).bind fun x105=>some (x105.2,{x7 with Key:=x105.1})).bind (fun(p104:(Int×Al))=>if(!decide (p104.1=0))=true then let x110:=(⟨0, .nil,At.z,(T.arr 32 T.u8).z,0⟩:Al)
 some (x110,p104.1) else (DC x3.l 2).bind fun x112=>((FE x112).bind fun x115=>some (x115.2,{p104.2 with Bytes:=x115.1})).bind (fun(p114:(Int×Al))=>if(!decide (p114.1=0))=true then let x120:=(⟨0, .nil,At.z,(T.arr 32 T.u8).z,0⟩:Al);some (x120,p114.1) else some (p114.2,0)))) (Sum.elim (fun(p14:Unit)=>if(!true)=true then let x125:=(⟨0, .nil,At.z,(T.arr 32 T.u8).z,0⟩:Al);some (x125,12) else let x129:= !decide (IntKind.i64.wrap ((x3.l.length:Int)-1)=1);if x129=true then let x130:=(⟨0, .nil,At.z,(T.arr 32 T.u8).z,0⟩:Al);some (x130,5) else (DC x3.l 1).bind fun x132=>((FE x132).bind fun x135=>some (x135.2,{x7 with Bytes:=x135.1})).bind (fun(p134:(Int×Al))=>if(!decide (p134.1=0))=true then let x140:=(⟨0, .nil,At.z,(T.arr 32 T.u8).z,0⟩:Al);some (x140,p134.1) else some (p134.2,0))) (Sum.elim (fun(p15:Unit)=>if(!true)=true then let x145:=(⟨0, .nil,At.z,(T.arr 32 T.u8).z,0⟩:Al);some (x145,12) else let x149:= !decide (IntKind.i64.wrap ((x3.l.length:Int)-1)=1);if x149=true then let x150:=(⟨0, .nil,At.z,(T.arr 32 T.u8).z,0⟩:Al);some (x150,5) else (DC x3.l 1).bind fun x152=>((GN x152 (20:UInt64)).bind fun x155=>let x159:={x7 with Why:=IntKind.i64.wrap (x155.1.toNat:Int)};(Cg (decide (x155.2=0)) ((L8 x159.Why).bind fun x162=>some (!x162))).bind fun x164=>if x164=true then some (6,x159) else some (x155.2,x159)).bind (fun(p154:(Int×Al))=>if(!decide (p154.1=0))=true then let x166:=(⟨0, .nil,At.z,(T.arr 32 T.u8).z,0⟩:Al);some (x166,p154.1) else some (p154.2,0))) (Sum.elim (fun(p16:Unit)=>if(!true)=true then
 let x171:=(⟨0, .nil,At.z,(T.arr 32 T.u8).z,0⟩:Al);some (x171,12) else let x175:= !decide (IntKind.i64.wrap ((x3.l.length:Int)-1)=2);if x175=true then let x176:=(⟨0, .nil,At.z,(T.arr 32 T.u8).z,0⟩:Al);some (x176,5) else (DC x3.l 1).bind fun x178=>((HH x178).bind fun x181=>some (x181.2,{x7 with To:=x181.1})).bind (fun(p180:(Int×Al))=>if(!decide (p180.1=0))=true then let x186:=(⟨0, .nil,At.z,(T.arr 32 T.u8).z,0⟩:Al);some (x186,p180.1) else (DC x3.l 2).bind fun x188=>((FE x188).bind fun x191=>some (x191.2,{p180.2 with Bytes:=x191.1})).bind (fun(p190:(Int×Al))=>if(!decide (p190.1=0))=true then let x196:=(⟨0, .nil,At.z,(T.arr 32 T.u8).z,0⟩:Al);some (x196,p190.1) else some (p190.2,0)))) (fun(p17:Unit)=>if(!false)=true then let x201:=(⟨0, .nil,At.z,(T.arr 32 T.u8).z,0⟩:Al);some (x201,12) else let x205:= !decide (IntKind.i64.wrap ((x3.l.length:Int)-1)=0);if x205=true then let x206:=(⟨0, .nil,At.z,(T.arr 32 T.u8).z,0⟩:Al);some (x206,5) else some (x7,0))))))))
noncomputable def UB(a:CG [Ak]):Cw tb Kx [Ak] [Ae,(T.int .i64)] a:=Af<|Ai (B7 (t:=Ae) 2 r_ r_) fun x1=>Ad (Ap AE)<|Ag<|Ab r_<|Aa.op (DT D1 AE) fun x2=>Aa.op (AN Pi (.cons Ah<| .one Ah)) fun x3=>Ab r_<|Ag<|Ab r_<|Aa.op (Fb r_ Ah AE) fun x4=>Ao (HY r_ r_ Ah) fun x5=>Aa.op (AN X7 (.one Ah)) fun x6=>Aj (C3 r_ r_ (.cons AT r_ Ah<| .nil _)) fun x7=>Ai (B7 (t:=Ae) 5 r_ r_) fun x8=>Ai (AQ Ah Ah r_ r_ (An _) r_) fun x9=>Ag<|Ad (AB Ah)<|Ao (AJ (t:=Ae) (u:=(T.int .i64)) Ah r_ r_ AT r_ r_) fun x10=>Aa.inl (τ:=(Unit⊕(Unit⊕(Unit⊕(Unit⊕(Unit⊕(Unit⊕Unit))))))) (φs:=[.val (T.int .i64) x10]) (n:=2) (L:=[(2, .cp 2 0),(4, .val (T.sl Ak) x3),(5, .cp 5 0)]) (Γr:=(Sum.elim (fun p11=>⟨[(0, .kv 3560080),(1, .kv 3560120)],[(2, .cells [(53, .val Ae x1)]),(5, .cells [(53, .val Ae x9)]),E9,(2000004, .ghost (.val (T.sl Ak) x3)),Gd,Uu,JP,Ut,Dd,CM,CL,CJ,JO]⟩) (Sum.elim (fun p12=>⟨[(0, .kv 3560080),(1, .kv 3560120)],[(2, .cells [(53, .val Ae x1)]),(5, .cells [(53, .val Ae x9)]),E9,(2000004, .ghost (.val (T.sl Ak) x3)),Gd,Us,Fe,Ur,Dd,Bq,Bp,Bo,Dg,Df,De,Fd,DW,DV,DU]⟩) (Sum.elim (fun p13=>⟨[(0, .kv 3560080),(1, .kv 3560120)],[(2, .cells [(53, .val Ae x1)]),(5, .cells [(53, .val Ae x9)]),E9,(2000004, .ghost (.val (T.sl Ak) x3)),Gd,Uq,Ha,Up,Dd,DO,DN,DM,BX,BW,BV,GZ]⟩) (Sum.elim (fun p14=>⟨[(0, .kv 3560080),(1, .kv 3560120)],[(2, .cells [(53, .val Ae x1)]),(5, .cells [(53, .val Ae x9)]),E9,(2000004, .ghost (.val (T.sl Ak) x3)),Gd,Uo,JN,Un,Dd,CM,CL,CJ,JM]⟩) (Sum.elim (fun p15=>⟨[(0, .kv 3560080),(1, .kv 3560120)],[(2, .cells [(53, .val Ae x1)]),(5, .cells [(53, .val Ae x9)]),E9,(2000004, .ghost (.val (T.sl Ak) x3)),Gd,Um,JL,Ul,Dd,G7,G6,G5,JK]⟩) (Sum.elim (fun p16=>⟨[(0, .kv 3560080),(1, .kv 3560120)],[(2, .cells [(53, .val Ae x1)]),(5, .cells [(53, .val Ae x9)]),E9,(2000004, .ghost (.val (T.sl Ak) x3)),Gd,Uk,GY,Uj,Dd,Bq,Bp,Bo,BX,BW,BV,GX]⟩) (fun p17=>⟨[(0, .kv 3560080),(1, .kv 3560120)],[(2, .cells [(53, .val Ae x1)]),(5, .cells [(53, .val Ae x9)]),E9,(2000004, .ghost (.val (T.sl Ak) x3)),Gd,Ui,PD,Uh,Ug]⟩)))))))) 2000000 (Sum.elim (fun p11=>⟨[Rz,(2, .cp 2 0),(4, .val (T.sl Ak) x3),(5, .cp 5 0)],[(2, .cells [(53, .val Ae x1)]),(5, .cells [(53, .val Ae x9)]),Uu,JP,Ut,Dd,CM,CL,CJ,JO]⟩) (Sum.elim (fun p12=>⟨[Rz,(2, .cp 2 0),(4, .val (T.sl Ak) x3),(5, .cp 5 0)],[(2, .cells [(53, .val Ae x1)]),(5, .cells [(53, .val Ae x9)]),Us,Fe,Ur,Dd,Bq,Bp,Bo,Dg,Df,De,Fd,DW,DV,DU]⟩) (Sum.elim (fun p13=>⟨[Rz,(2, .cp 2 0),(4, .val (T.sl Ak) x3),(5, .cp 5 0)],[(2, .cells [(53, .val Ae x1)]),(5, .cells [(53, .val Ae x9)]),Uq,Ha,Up,Dd,DO,DN,DM,BX,BW,BV,GZ]⟩) (Sum.elim (fun p14=>⟨[Rz,(2, .cp 2 0),(4, .val (T.sl Ak) x3),(5, .cp 5 0)],[(2, .cells [(53, .val Ae x1)]),(5, .cells [(53, .val Ae x9)]),Uo,JN,Un,Dd,CM,CL,CJ,JM]⟩) (Sum.elim (fun p15=>⟨[Rz,(2, .cp 2 0),(4, .val (T.sl Ak) x3),(5, .cp 5 0)],[(2, .cells [(53, .val Ae x1)]),(5, .cells [(53, .val Ae x9)]),Um,JL,Ul,Dd,G7,G6,G5,JK]⟩) (Sum.elim (fun p16=>⟨[Rz,(2, .cp 2 0),(4, .val (T.sl Ak) x3),(5, .cp 5 0)],[(2, .cells [(53, .val Ae x1)]),(5, .cells [(53, .val Ae x9)]),Uk,GY,Uj,Dd,Bq,Bp,Bo,BX,BW,BV,GX]⟩) (fun p17=>⟨[Rz,(2, .cp 2 0),(4, .val (T.sl Ak) x3),(5, .cp 5 0)],[(2, .cells [(53, .val Ae x1)]),(5, .cells [(53, .val Ae x9)]),Ui,PD,Uh,Ug]⟩))))))) I5 r_ r_ r_ (BN r_) (.cons (Jf Ah)<| .nil) sB r_ (
 Af<|Ai (A9 1002 _ Iv r_ r_) fun _=>Ad (Ap DF)<|Ag<|Af<|Ab r_<|Ac<|Ax<|Af<|Aj (Av r_ Ah AE) fun x18=>Ab r_<|Ac<|Aa.cond Ah (Af<|Aa.inl (τ:=Unit) (φs:=[]) (n:=1) (L:=[(2, .cp 1002 0)]) (Γr:=(fun p19=>⟨[Hx],[(2, .cells [(53, .val Ae x1)]),(5, .cells [(53, .val Ae x9)]),Gu,E9,(2000004, .ghost (.val (T.sl Ak) x3)),Gd,MX,CM,CL,CJ]⟩)) 2100000 (fun p19=>⟨[AaN,(2, .cp 1002 0)],[(2, .cells [(53, .val Ae x1)]),(5, .cells [(53, .val Ae x9)]),Gu,E9,(2000004, .ghost (.val (T.sl Ak) x3)),Gd,CM,CL,CJ]⟩) BP r_ r_ r_ (BN r_) (.nil) sB r_ (Af<|Ai (A9 0 _ Dr r_ r_) fun _=>Ag<|Bg (Bz (φs:=[.fnv (.func AZ) [] [], .fnv (.func Bc) [] [], .fnv (.func Bb) [] []]) 3600040 (.cons B4<| .cons B4<| .cons B4<| .nil) r_ r_ sB (js:=[3600040,3600041,3600042]) r_)<|Ai (Ba Ah Ah r_ r_ r_ r_) fun _=>Ac<|A0 () (.cons (DH r_ r_ r_ r_)<| .nil) sB) (fun p19=>Au sB r_ (.one r_) sB sB) (.one fun p19=>Ai (EZ (l:=[[3600040,3600041,3600042]]) 20001008 (.cons Ah r_<| .nil) r_ r_) fun _=>Bg (Bz (φs:=[.val Ak [114,101,112,108,121], .own 20001008]) 3400360 (.cons D1<| .cons Ah<| .nil) r_ r_ sB (js:=[3400360,3400361]) r_)<|Ai (Ba Ah Ah r_ r_ r_ r_) fun _=>Ad (Ap DF)<|Ac<|BU (js:=[3400360,3400361]) 3560080 2 r_ r_ r_ r_<|BT 3560120 3 r_ r_ r_<|A0 (.inl (())) (.cons (Eo (js:=[3400360,3400361]) (j:=1002) (j':=3560080) r_ r_ r_ r_ r_)<| .cons (Dc r_)<| .nil) sB)) (Af<|Aj (Av r_ Ah AE) fun x20=>Ab r_<|Ac<|Aa.cond Ah (Af<|Aa.inl (τ:=Unit) (φs:=[]) (n:=1) (L:=[(2, .cp 1002 0)]) (Γr:=(fun p21=>⟨[Hx],[(2, .cells [(53, .val Ae x1)]),(5, .cells [(53, .val Ae x9)]),Gu,E9,(2000004, .ghost (.val (T.sl Ak) x3)),Gd,MX,Bq,Bp,Bo]⟩)) 2100000 (fun p21=>⟨[Jb,(2, .cp 1002 0)],[(2, .cells [(53, .val Ae x1)]),(5, .cells [(53, .val Ae x9)]),Gu,E9,(2000004, .ghost (.val (T.sl Ak) x3)),Gd,Bq,Bp,Bo]⟩) HK r_ r_ r_ (BN r_) (.nil) sB r_ (
 Af<|Ai (A9 0 _ Dr r_ r_) fun _=>Ag<|Bg (Bz (φs:=[.fnv (.func Cv) [] [], .fnv (.func C8) [] [], .fnv (.func C7) [] []]) 3600040 (.cons B4<| .cons B4<| .cons B4<| .nil) r_ r_ sB (js:=[3600040,3600041,3600042]) r_)<|Ai (Ba Ah Ah r_ r_ r_ r_) fun _=>Ac<|A0 () (.cons (DH r_ r_ r_ r_)<| .nil) sB) (fun p21=>Au sB r_ (.one r_) sB sB) (.one fun p21=>Aa.inl (τ:=Unit) (φs:=[]) (n:=1) (L:=[(2, .cp 1002 0),Jb]) (Γr:=(fun p22=>⟨[OK],[(2, .cells [(53, .val Ae x1)]),(5, .cells [(53, .val Ae x9)]),Gu,E9,(2000004, .ghost (.val (T.sl Ak) x3)),Gd,MX,Uv,Bq,Bp,Bo,Dg,Df,De]⟩)) 2100000 (fun p22=>⟨[OL,(2, .cp 1002 0),Jb],[(2, .cells [(53, .val Ae x1)]),(5, .cells [(53, .val Ae x9)]),Gu,E9,(2000004, .ghost (.val (T.sl Ak) x3)),Gd,Bq,Bp,Bo,Dg,Df,De]⟩) G3 r_ r_ r_ (BN r_) (.nil) sB r_ (Af<|Ai (A9 0 _ Dr r_ r_) fun _=>Ag<|Bg (Bz (φs:=[.fnv (.func BS) [] [], .fnv (.func Cj) [] [], .fnv (.func Ci) [] []]) 13600040 (.cons B4<| .cons B4<| .cons B4<| .nil) r_ r_ sB (js:=[13600040,13600041,13600042]) r_)<|Ai (Ba Ah Ah r_ r_ r_ r_) fun _=>Ac<|A0 () (.cons (DH r_ r_ r_ r_)<| .nil) sB) (fun p22=>Au sB r_ (.one r_) sB sB) (.one fun p22=>Aa.inl (τ:=Unit) (φs:=[]) (n:=1) (L:=[(2, .cp 1002 0),Jb,OL]) (Γr:=(fun p23=>⟨[oV],[(2, .cells [(53, .val Ae x1)]),(5, .cells [(53, .val Ae x9)]),Gu,E9,(2000004, .ghost (.val (T.sl Ak) x3)),Gd,MX,Uv,oU,Bq,Bp,Bo,Dg,Df,De,DW,DV,DU]⟩)) 2100000 (fun p23=>⟨[oW,(2, .cp 1002 0),Jb,OL],[(2, .cells [(53, .val Ae x1)]),(5, .cells [(53, .val Ae x9)]),Gu,E9,(2000004, .ghost (.val (T.sl Ak) x3)),Gd,Bq,Bp,Bo,Dg,Df,De,DW,DV,DU]⟩) BP r_ r_ r_ (BN r_) (.nil) sB r_ (
 Af<|Ai (A9 0 _ Dr r_ r_) fun _=>Ag<|Bg (Bz (φs:=[.fnv (.func AZ) [] [], .fnv (.func Bc) [] [], .fnv (.func Bb) [] []]) 23600040 (.cons B4<| .cons B4<| .cons B4<| .nil) r_ r_ sB (js:=[23600040,23600041,23600042]) r_)<|Ai (Ba Ah Ah r_ r_ r_ r_) fun _=>Ac<|A0 () (.cons (DH r_ r_ r_ r_)<| .nil) sB) (fun p23=>Au sB r_ (.one r_) sB sB) (.one fun p23=>Ai (EZ (l:=[[3600040,3600041,3600042],[13600040,13600041,13600042],[23600040,23600041,23600042]]) 20001015 (.cons Ah r_<| .cons Ah r_<| .cons Ah r_<| .nil) r_ r_) fun _=>Bg (Bz (φs:=[.val Ak [115,101,110,100], .own 20001015]) 3400640 (.cons D1<| .cons Ah<| .nil) r_ r_ sB (js:=[3400640,3400641]) r_)<|Ai (Ba Ah Ah r_ r_ r_ r_) fun _=>Ad (Ap DF)<|Ac<|BU (js:=[3400640,3400641]) 3560080 2 r_ r_ r_ r_<|BT 3560120 3 r_ r_ r_<|A0 (.inr (.inl (()))) (.cons (Eo (js:=[3400640,3400641]) (j:=1002) (j':=3560080) r_ r_ r_ r_ r_)<| .cons (Dc r_)<| .nil) sB)))) (Af<|Aj (Av r_ Ah AE) fun x24=>Ab r_<|Ac<|Aa.cond Ah (Af<|Aa.inl (τ:=Unit) (φs:=[]) (n:=1) (L:=[(2, .cp 1002 0)]) (Γr:=(fun p25=>⟨[Hx],[(2, .cells [(53, .val Ae x1)]),(5, .cells [(53, .val Ae x9)]),Gu,E9,(2000004, .ghost (.val (T.sl Ak) x3)),Gd,MX,DO,DN,DM]⟩)) 2100000 (fun p25=>⟨[OJ,(2, .cp 1002 0)],[(2, .cells [(53, .val Ae x1)]),(5, .cells [(53, .val Ae x9)]),Gu,E9,(2000004, .ghost (.val (T.sl Ak) x3)),Gd,DO,DN,DM]⟩) G3 r_ r_ r_ (BN r_) (.nil) sB r_ (Af<|Ai (A9 0 _ Dr r_ r_) fun _=>Ag<|Bg (Bz (φs:=[.fnv (.func BS) [] [], .fnv (.func Cj) [] [], .fnv (.func Ci) [] []]) 3600040 (.cons B4<| .cons B4<| .cons B4<| .nil) r_ r_ sB (js:=[3600040,3600041,3600042]) r_)<|
 Ai (Ba Ah Ah r_ r_ r_ r_) fun _=>Ac<|A0 () (.cons (DH r_ r_ r_ r_)<| .nil) sB) (fun p25=>Au sB r_ (.one r_) sB sB) (.one fun p25=>Aa.inl (τ:=Unit) (φs:=[]) (n:=1) (L:=[(2, .cp 1002 0),OJ]) (Γr:=(fun p26=>⟨[OK],[(2, .cells [(53, .val Ae x1)]),(5, .cells [(53, .val Ae x9)]),Gu,E9,(2000004, .ghost (.val (T.sl Ak) x3)),Gd,MX,oS,DO,DN,DM,BX,BW,BV]⟩)) 2100000 (fun p26=>⟨[oT,(2, .cp 1002 0),OJ],[(2, .cells [(53, .val Ae x1)]),(5, .cells [(53, .val Ae x9)]),Gu,E9,(2000004, .ghost (.val (T.sl Ak) x3)),Gd,DO,DN,DM,BX,BW,BV]⟩) BP r_ r_ r_ (BN r_) (.nil) sB r_ (Af<|Ai (A9 0 _ Dr r_ r_) fun _=>Ag<|Bg (Bz (φs:=[.fnv (.func AZ) [] [], .fnv (.func Bc) [] [], .fnv (.func Bb) [] []]) 13600040 (.cons B4<| .cons B4<| .cons B4<| .nil) r_ r_ sB (js:=[13600040,13600041,13600042]) r_)<|Ai (Ba Ah Ah r_ r_ r_ r_) fun _=>Ac<|A0 () (.cons (DH r_ r_ r_ r_)<| .nil) sB) (fun p26=>Au sB r_ (.one r_) sB sB) (.one fun p26=>Ai (EZ (l:=[[3600040,3600041,3600042],[13600040,13600041,13600042]]) 20001021 (.cons Ah r_<| .cons Ah r_<| .nil) r_ r_) fun _=>Bg (Bz (φs:=[.val Ak [100,101,108,105,118,101,114], .own 20001021]) 3400880 (.cons D1<| .cons Ah<| .nil) r_ r_ sB (js:=[3400880,3400881]) r_)<|Ai (Ba Ah Ah r_ r_ r_ r_) fun _=>Ad (Ap DF)<|Ac<|BU (js:=[3400880,3400881]) 3560080 2 r_ r_ r_ r_<|BT 3560120 3 r_ r_ r_<|A0 (.inr (.inr (.inl (())))) (.cons (Eo (js:=[3400880,3400881]) (j:=1002) (j':=3560080) r_ r_ r_ r_ r_)<| .cons (Dc r_)<| .nil) sB))) (Af<|Aj (Av r_ Ah AE) fun x27=>Ab r_<|Ac<|Aa.cond Ah (Af<|Aa.inl (τ:=Unit) (φs:=[]) (n:=1) (L:=[(2, .cp 1002 0)]) (Γr:=(fun p28=>⟨[Hx],[(2, .cells [(53, .val Ae x1)]),(5, .cells [(53, .val Ae x9)]),Gu,E9,(2000004, .ghost (.val (T.sl Ak) x3)),Gd,MX,CM,CL,CJ]⟩)) 2100000 (fun p28=>⟨[oR,(2, .cp 1002 0)],[(2, .cells [(53, .val Ae x1)]),(5, .cells [(53, .val Ae x9)]),Gu,E9,(2000004, .ghost (.val (T.sl Ak) x3)),Gd,CM,CL,CJ]⟩) BP r_ r_ r_ (BN r_) (.nil) sB r_ (
 Af<|Ai (A9 0 _ Dr r_ r_) fun _=>Ag<|Bg (Bz (φs:=[.fnv (.func AZ) [] [], .fnv (.func Bc) [] [], .fnv (.func Bb) [] []]) 3600040 (.cons B4<| .cons B4<| .cons B4<| .nil) r_ r_ sB (js:=[3600040,3600041,3600042]) r_)<|Ai (Ba Ah Ah r_ r_ r_ r_) fun _=>Ac<|A0 () (.cons (DH r_ r_ r_ r_)<| .nil) sB) (fun p28=>Au sB r_ (.one r_) sB sB) (.one fun p28=>Ai (EZ (l:=[[3600040,3600041,3600042]]) 20001026 (.cons Ah r_<| .nil) r_ r_) fun _=>Bg (Bz (φs:=[.val Ak [114,101,102,117,115,101], .own 20001026]) 3401080 (.cons D1<| .cons Ah<| .nil) r_ r_ sB (js:=[3401080,3401081]) r_)<|Ai (Ba Ah Ah r_ r_ r_ r_) fun _=>Ad (Ap DF)<|Ac<|BU (js:=[3401080,3401081]) 3560080 2 r_ r_ r_ r_<|BT 3560120 3 r_ r_ r_<|A0 (.inr (.inr (.inr (.inl (()))))) (.cons (Eo (js:=[3401080,3401081]) (j:=1002) (j':=3560080) r_ r_ r_ r_ r_)<| .cons (Dc r_)<| .nil) sB)) (Af<|Aj (Av r_ Ah AE) fun x29=>Ab r_<|Ac<|Aa.cond Ah (Af<|Aa.inl (τ:=Unit) (φs:=[]) (n:=1) (L:=[(2, .cp 1002 0)]) (Γr:=(fun p30=>⟨[Hx],[(2, .cells [(53, .val Ae x1)]),(5, .cells [(53, .val Ae x9)]),Gu,E9,(2000004, .ghost (.val (T.sl Ak) x3)),Gd,MX,G7,G6,G5]⟩)) 2100000 (fun p30=>⟨[oQ,(2, .cp 1002 0)],[(2, .cells [(53, .val Ae x1)]),(5, .cells [(53, .val Ae x9)]),Gu,E9,(2000004, .ghost (.val (T.sl Ak) x3)),Gd,G7,G6,G5]⟩) M0 r_ r_ r_ (BN r_) (.nil) sB r_ (Af<|Ai (A9 0 _ Dr r_ r_) fun _=>Ag<|Bg (Bz (φs:=[.fnv (.func Dk) [] [], .fnv (.func D3) [] [], .fnv (.func D2) [] []]) 3600040 (.cons B4<| .cons B4<| .cons B4<| .nil) r_ r_ sB (js:=[3600040,3600041,3600042]) r_)<|Ai (Ba Ah Ah r_ r_ r_ r_) fun _=>
 Ac<|A0 () (.cons (DH r_ r_ r_ r_)<| .nil) sB) (fun p30=>Au sB r_ (.one r_) sB sB) (.one fun p30=>Ai (EZ (l:=[[3600040,3600041,3600042]]) 20001031 (.cons Ah r_<| .nil) r_ r_) fun _=>Bg (Bz (φs:=[.val Ak [100,114,111,112], .own 20001031]) 3401280 (.cons D1<| .cons Ah<| .nil) r_ r_ sB (js:=[3401280,3401281]) r_)<|Ai (Ba Ah Ah r_ r_ r_ r_) fun _=>Ad (Ap DF)<|Ac<|BU (js:=[3401280,3401281]) 3560080 2 r_ r_ r_ r_<|BT 3560120 3 r_ r_ r_<|A0 (.inr (.inr (.inr (.inr (.inl (())))))) (.cons (Eo (js:=[3401280,3401281]) (j:=1002) (j':=3560080) r_ r_ r_ r_ r_)<| .cons (Dc r_)<| .nil) sB)) (Af<|Aj (Av r_ Ah AE) fun x31=>Ab r_<|Ac<|Aa.cond Ah (Af<|Aa.inl (τ:=Unit) (φs:=[]) (n:=1) (L:=[(2, .cp 1002 0)]) (Γr:=(fun p32=>⟨[Hx],[(2, .cells [(53, .val Ae x1)]),(5, .cells [(53, .val Ae x9)]),Gu,E9,(2000004, .ghost (.val (T.sl Ak) x3)),Gd,MX,Bq,Bp,Bo]⟩)) 2100000 (fun p32=>⟨[OI,(2, .cp 1002 0)],[(2, .cells [(53, .val Ae x1)]),(5, .cells [(53, .val Ae x9)]),Gu,E9,(2000004, .ghost (.val (T.sl Ak) x3)),Gd,Bq,Bp,Bo]⟩) HK r_ r_ r_ (BN r_) (.nil) sB r_ (Af<|Ai (A9 0 _ Dr r_ r_) fun _=>Ag<|Bg (Bz (φs:=[.fnv (.func Cv) [] [], .fnv (.func C8) [] [], .fnv (.func C7) [] []]) 3600040 (.cons B4<| .cons B4<| .cons B4<| .nil) r_ r_ sB (js:=[3600040,3600041,3600042]) r_)<|Ai (Ba Ah Ah r_ r_ r_ r_) fun _=>Ac<|A0 () (.cons (DH r_ r_ r_ r_)<| .nil) sB) (fun p32=>Au sB r_ (.one r_) sB sB) (.one fun p32=>Aa.inl (τ:=Unit) (φs:=[]) (n:=1) (L:=[(2, .cp 1002 0),OI]) (Γr:=(fun p33=>⟨[OK],[(2, .cells [(53, .val Ae x1)]),(5, .cells [(53, .val Ae x9)]),Gu,E9,(2000004, .ghost (.val (T.sl Ak) x3)),Gd,MX,oO,Bq,Bp,Bo,BX,BW,BV]⟩)) 2100000 (fun p33=>⟨[oP,(2, .cp 1002 0),OI],[(2, .cells [(53, .val Ae x1)]),(5, .cells [(53, .val Ae x9)]),Gu,E9,(2000004, .ghost (.val (T.sl Ak) x3)),Gd,Bq,Bp,Bo,BX,BW,BV]⟩) BP r_ r_ r_ (BN r_) (.nil) sB r_ (
 Af<|Ai (A9 0 _ Dr r_ r_) fun _=>Ag<|Bg (Bz (φs:=[.fnv (.func AZ) [] [], .fnv (.func Bc) [] [], .fnv (.func Bb) [] []]) 13600040 (.cons B4<| .cons B4<| .cons B4<| .nil) r_ r_ sB (js:=[13600040,13600041,13600042]) r_)<|Ai (Ba Ah Ah r_ r_ r_ r_) fun _=>Ac<|A0 () (.cons (DH r_ r_ r_ r_)<| .nil) sB) (fun p33=>Au sB r_ (.one r_) sB sB) (.one fun p33=>Ai (EZ (l:=[[3600040,3600041,3600042],[13600040,13600041,13600042]]) 20001037 (.cons Ah r_<| .cons Ah r_<| .nil) r_ r_) fun _=>Bg (Bz (φs:=[.val Ak [112,97,115,115], .own 20001037]) 3401520 (.cons D1<| .cons Ah<| .nil) r_ r_ sB (js:=[3401520,3401521]) r_)<|Ai (Ba Ah Ah r_ r_ r_ r_) fun _=>Ad (Ap DF)<|Ac<|BU (js:=[3401520,3401521]) 3560080 2 r_ r_ r_ r_<|BT 3560120 3 r_ r_ r_<|A0 (.inr (.inr (.inr (.inr (.inr (.inl (()))))))) (.cons (Eo (js:=[3401520,3401521]) (j:=1002) (j':=3560080) r_ r_ r_ r_ r_)<| .cons (Dc r_)<| .nil) sB))) (Aa.skip<|A8<|Ag<|Bg (cO (zero:=[.s [], .nils]) (φs:=[.val Ak Ak.z, .con (.nils)]) 3401560 (fun _ _ _ _=>⟨(.inr ⟨r_,Ak.hz _ _⟩),⟨r_,r_,r_⟩,trivial⟩) r_ r_ sB (js:=[3401560,3401561]) r_)<|Ai (Ba Ah Ah r_ r_ r_ r_) fun _=>Ad (Ap DF)<|Ac<|BU (js:=[3401560,3401561]) 3560080 2 r_ r_ r_ r_<|BT 3560120 3 r_ r_ r_<|A0 (.inr (.inr (.inr (.inr (.inr (.inr (()))))))) (.cons (Eo (js:=[3401560,3401561]) (j:=1002) (j':=3560080) r_ r_ r_ r_ r_)<| .cons (Dc r_)<| .nil) sB))))))) (DQ (fun p11=>Au sB r_ (.kvs r_ (by intro i p h;match i,h with|0,h=>(cases h;rfl)|1,h=>(cases h;rfl)|(_+2),h=>simp at h)) sB sB) (DQ (fun p12=>Au sB r_ (.kvs r_ (by intro i p h;match i,h with|0,h=>(cases h;rfl)|1,h=>(cases h;rfl)|(_+2),h=>simp at h)) sB sB) (DQ (fun p13=>Au sB r_ (.kvs r_ (by intro i p h;match i,h with|0,h=>(cases h;rfl)|1,h=>(cases h;rfl)|(_+2),h=>simp at h)) sB sB) (DQ (fun p14=>Au sB r_ (.kvs r_ (by intro i p h;match i,h with|0,h=>(cases h;rfl)|1,h=>(cases h;rfl)|(_+2),h=>simp at h)) sB sB) (DQ (fun p15=>Au sB r_ (.kvs r_ (by intro i p h;match i,h with|0,h=>(cases h;rfl)|1,h=>(cases h;rfl)|(_+2),h=>simp at h)) sB sB) (DQ (fun p16=>Au sB r_ (.kvs r_ (by intro i p h;match i,h with|0,h=>(cases h;rfl)|1,h=>(cases h;rfl)|(_+2),h=>simp at h)) sB sB) (fun p17=>Au sB r_ (.kvs r_ (by intro i p h;match i,h with|0,h=>(cases h;rfl)|1,h=>(cases h;rfl)|(_+2),h=>simp at h)) sB sB))))))) (.alt (.one fun p11=>
 Ab r_<|Ad (BE Ah r_)<|Ad (BE Ah r_)<|Ai (A9 6 _ Iv r_ r_) fun _=>Ai (Ba Ah (Bl r_ r_) r_ r_ r_ r_) fun _=>Ad (Ap (Bl r_ r_))<|Ag<|Ax<|Af<|Ab r_<|Aj (Fz Ah) fun x34=>Ab r_<|Ac<|Aa.cond Ah (Af<|Aj (C3 r_ r_ (.nil _)) fun x35=>Ai (AQ Ah Ah r_ r_ (An _) r_) fun x36=>Ad (Ap AE)<|Ac<|Aa.ret (.cons (Bw r_ r_ r_ (An _) r_ r_)<| .one (Az r_))) (Af<|Ab r_<|Aj (Dv Ah) fun x37=>Aj (EQ (I:=(IT.int .i64)) Ah AE) fun x38=>Ad (AB Ah)<|Ad (Br Ah r_ r_ r_)<|Ad (EU (n:=1) (Bl r_ r_) r_ r_)<|Aj (Av r_ Ah Ah) fun x39=>Ab r_<|Ac<|Aa.cond Ah (Af<|Aj (C3 r_ r_ (.nil _)) fun x40=>Ai (AQ Ah Ah r_ r_ (An _) r_) fun x41=>Ad (Ap AE)<|Ac<|Aa.ret (.cons (Bw r_ r_ r_ (An _) r_ r_)<| .one (Az r_))) (Aa.skip<|A8<|Ag<|Af<|Ad (AB Ah)<|Ad (Br Ah r_ r_ r_)<|Ad (EU (n:=1) (Bl r_ r_) r_ r_)<|Ad (Ap AE)<|Ac<|Ax<|AR (Γ':=⟨[(2, .cp 2 0),(4, .val (T.sl Ak) x3),(5, .cp 5 0),(39, .kv 3400361),Lh,GM],[(2, .cells [(53, .val Ae x1)]),(5, .cells [(53, .val Ae x9)]),JP,CM,CL,CJ,JO]⟩) sB r_<|Af<|Ad (Bt (t:=T.b) (y:=true) (Av r_ Ah Ah) r_)<|Ag<|BC Ah<|Aa.skip<|Ag<|Ax<|Af<|Ab r_<|Ad (DR (i:=0) (Bl r_ r_) r_ r_ Ah r_ (by decide))<|Ad (F0 Ah r_ r_ r_)<|Ai (A9 9 _ Dr r_ r_) fun _=>Ab r_<|Ai (Ba Ah Ah r_ r_ r_ r_) fun _=>Ag<|Aa.regd 1<|Aq r_ (AB Ah)<|Aq r_ (Br Ah r_ r_ r_)<|Aq r_ (Ap (Cs r_))<|Aq r_ (Ap (Cs r_))<|Aq r_ (Bt (t:=T.int .i64) (y:=(1:Int)) (AW (I:=(IT.int .i64)) Ah AE) r_)<|A4.op r_ (Fb r_ Ah Ah) fun x42=>Do r_ (HY r_ r_ Ah) fun x43=>A4.inl (τ:=(Int×Al)) (φs:=[.cp 5 0, .val Ak x43]) (n:=1) (L:=[(2, .cp 2 0),(4, .val (T.sl Ak) x3),(5, .cp 5 0),(39, .kv 3400361),Lh,GM]) (Γr:=(fun p44=>⟨[(0, .val (T.int .i64) p44.1)],[(2, .cells [(53, .val Ae x1)]),(5, .cells [(53, .val Ae p44.2)]),E9,(2000004, .ghost (.val (T.sl Ak) x3)),Gd,(2000039, .ghost (.kv 3400361)),mE,T5,JP,CM,CL,CJ,JO]⟩)) r_ (.nil) 2000000 (fun p44=>⟨[(53, .val (T.int .i64) p44.1),(2, .cp 2 0),(4, .val (T.sl Ak) x3),(5, .cp 5 0),(39, .kv 3400361),Lh,GM],[(2, .cells [(53, .val Ae x1)]),(5, .cells [(53, .val Ae p44.2)]),JP,CM,CL,CJ,JO]⟩) (fun _=> .nil) HM r_ r_ r_ (CQ (Bl r_ r_) r_) (.cons (Jf Ah)<| .cons (Jf Ah)<| .nil) sB r_ (
 Af<|Ad (Ap AE)<|Ag<|Ab r_<|Ab r_<|Aa.op (Bn (I2 (As:=[Ak]) ⟨CA,trivial⟩ CA GT) (.one Ah)) fun x45=>Ab r_<|Ao (AY Ah r_) fun x46=>Ao (AY Ah r_) fun x47=>Ad (By Ah)<|Ad (AB Ah)<|Ai (AQ Ah Ah r_ r_ Bv r_) fun x48=>Ab r_<|Ag<|Ab r_<|Ab r_<|Ac<|A0 (x47,x48) (.cons (Dc r_)<| .nil) sB) (fun p44=>Au sB r_ (.one r_) trivial sB) fun p44=>Aq r_ (Ap (Cs r_))<|Ce<|Ag<|Ab r_<|Aj (Av r_ Ah AE) fun x49=>Ac<|Aa.cond Ah (Af<|Aj (C3 r_ r_ (.nil _)) fun x50=>Ab r_<|Ai (AQ Ah Ah r_ r_ (An _) r_) fun x51=>Ab r_<|Ac<|Aa.ret (.cons (Bw r_ r_ r_ (An _) r_ r_)<| .one (Az r_))) (Aa.skip<|A8<|Ac<|Ad (Bt (t:=T.int .i64) (y:=(1:Int)) (AW (I:=(IT.int .i64)) Ah AE) r_)<|Ab r_<|Ac<|AR (Γ':=⟨[(2, .cp 2 0),(4, .val (T.sl Ak) x3),(5, .cp 5 0),(39, .kv 3400361),Lh,Lg],[(2, .cells [(53, .val Ae x1)]),(5, .cells [(53, .val Ae p44.2)]),JP,CM,CL,CJ,JO]⟩) sB r_<|Af<|Ad (Bt (t:=T.b) (y:=false) (Av r_ Ah Ah) r_)<|Ag<|CF Ah<|AD<|AD<|AS<|Ag<|Ao (AJ (t:=Ae) (u:=Ae) Ah r_ r_ (An _) r_ r_) fun x52=>Ai (AQ Ah Ah r_ r_ (An _) r_) fun x53=>Ad (Ap AE)<|Ac<|Aa.ret (.cons (Bw r_ r_ r_ (An _) r_ r_)<| .one (Az r_)))))) (.alt (.one fun p12=>Ab r_<|Ad (BE Ah r_)<|Ad (BE Ah r_)<|Ai (A9 6 _ Iv r_ r_) fun _=>Ai (Ba Ah (Bl r_ r_) r_ r_ r_ r_) fun _=>Ad (Ap (Bl r_ r_))<|Ag<|Ax<|Af<|Ab r_<|Aj (Fz Ah) fun x54=>Ab r_<|Ac<|Aa.cond Ah (Af<|Aj (C3 r_ r_ (.nil _)) fun x55=>Ai (AQ Ah Ah r_ r_ (An _) r_) fun x56=>Ad (Ap AE)<|Ac<|Aa.ret (.cons (Bw r_ r_ r_ (An _) r_ r_)<| .one (Az r_))) (Af<|Ab r_<|Aj (Dv Ah) fun x57=>Aj (EQ (I:=(IT.int .i64)) Ah AE) fun x58=>
 Ad (AB Ah)<|Ad (Br Ah r_ r_ r_)<|Ad (EU (n:=3) (Bl r_ r_) r_ r_)<|Aj (Av r_ Ah Ah) fun x59=>Ab r_<|Ac<|Aa.cond Ah (Af<|Aj (C3 r_ r_ (.nil _)) fun x60=>Ai (AQ Ah Ah r_ r_ (An _) r_) fun x61=>Ad (Ap AE)<|Ac<|Aa.ret (.cons (Bw r_ r_ r_ (An _) r_ r_)<| .one (Az r_))) (Aa.skip<|A8<|Ag<|Af<|Ad (AB Ah)<|Ad (Br Ah r_ r_ r_)<|Ad (EU (n:=3) (Bl r_ r_) r_ r_)<|Ad (Ap AE)<|Ac<|Ax<|AR (Γ':=⟨[(2, .cp 2 0),(4, .val (T.sl Ak) x3),(5, .cp 5 0),(39, .kv 3400641),MW,GM],[(2, .cells [(53, .val Ae x1)]),(5, .cells [(53, .val Ae x9)]),Fe,Bq,Bp,Bo,Dg,Df,De,Fd,DW,DV,DU]⟩) sB r_<|Af<|Ad (Bt (t:=T.b) (y:=true) (Av r_ Ah Ah) r_)<|Ag<|BC Ah<|Aa.skip<|Ag<|Ax<|Af<|Ab r_<|Ad (DR (i:=0) (Bl r_ r_) r_ r_ Ah r_ (by decide))<|Ad (F0 Ah r_ r_ r_)<|Ai (A9 9 _ Dr r_ r_) fun _=>Ab r_<|Ai (Ba Ah Ah r_ r_ r_ r_) fun _=>Ag<|Aa.regd 1<|Aq r_ (AB Ah)<|Aq r_ (Br Ah r_ r_ r_)<|Aq r_ (Ap (Cs r_))<|Aq r_ (Ap (Cs r_))<|Aq r_ (Bt (t:=T.int .i64) (y:=(1:Int)) (AW (I:=(IT.int .i64)) Ah AE) r_)<|A4.op r_ (Fb r_ Ah Ah) fun x62=>Do r_ (HY r_ r_ Ah) fun x63=>A4.inl (τ:=(Int×Al)) (φs:=[.cp 5 0, .val Ak x63]) (n:=1) (L:=[(2, .cp 2 0),(4, .val (T.sl Ak) x3),(5, .cp 5 0),(39, .kv 3400641),MW,GM]) (Γr:=(fun p64=>⟨[(0, .val (T.int .i64) p64.1)],[(2, .cells [(53, .val Ae x1)]),(5, .cells [(53, .val Ae p64.2)]),E9,(2000004, .ghost (.val (T.sl Ak) x3)),Gd,mD,mC,T5,Fe,Bq,Bp,Bo,Dg,Df,De,Fd,DW,DV,DU]⟩)) r_ (.nil) 2000000 (fun p64=>⟨[(53, .val (T.int .i64) p64.1),(2, .cp 2 0),(4, .val (T.sl Ak) x3),(5, .cp 5 0),(39, .kv 3400641),MW,GM],[(2, .cells [(53, .val Ae x1)]),(5, .cells [(53, .val Ae p64.2)]),Fe,Bq,Bp,Bo,Dg,Df,De,Fd,DW,DV,DU]⟩) (fun _=> .nil) Sp r_ r_ r_ (CQ (Bl r_ r_) r_) (.cons (Jf Ah)<| .cons (Jf Ah)<| .nil) sB r_ (
 Af<|Ad (Ap AE)<|Ag<|Ab r_<|Ab r_<|Aa.op (Bn Mq (.one Ah)) fun x65=>Ab r_<|Ao (AY Ah r_) fun x66=>Ao (AY Ah r_) fun x67=>Ad (By Ah)<|Ad (AB Ah)<|Ai (AQ Ah Ah r_ r_ CP r_) fun x68=>Ab r_<|Ag<|Ab r_<|Ab r_<|Ac<|A0 (x67,x68) (.cons (Dc r_)<| .nil) sB) (fun p64=>Au sB r_ (.one r_) trivial sB) fun p64=>Aq r_ (Ap (Cs r_))<|Ce<|Ag<|Ab r_<|Aj (Av r_ Ah AE) fun x69=>Ac<|Aa.cond Ah (Af<|Aj (C3 r_ r_ (.nil _)) fun x70=>Ab r_<|Ai (AQ Ah Ah r_ r_ (An _) r_) fun x71=>Ab r_<|Ac<|Aa.ret (.cons (Bw r_ r_ r_ (An _) r_ r_)<| .one (Az r_))) (Aa.skip<|A8<|Ac<|Ad (Bt (t:=T.int .i64) (y:=(1:Int)) (AW (I:=(IT.int .i64)) Ah AE) r_)<|Ab r_<|Ac<|AR (Γ':=⟨[(2, .cp 2 0),(4, .val (T.sl Ak) x3),(5, .cp 5 0),(39, .kv 3400641),MW,Lg],[(2, .cells [(53, .val Ae x1)]),(5, .cells [(53, .val Ae p64.2)]),Fe,Bq,Bp,Bo,Dg,Df,De,Fd,DW,DV,DU]⟩) sB r_<|Af<|Ad (Bt (t:=T.b) (y:=true) (Av r_ Ah Ah) r_)<|Ag<|BC Ah<|Aa.skip<|Ag<|Ax<|Af<|Ab r_<|Ad (DR (i:=1) (Bl r_ r_) r_ r_ Ah r_ (by decide))<|Ad (F0 Ah r_ r_ r_)<|Ai (A9 9 _ Dr r_ r_) fun _=>Ab r_<|Ai (Ba Ah Ah r_ r_ r_ r_) fun _=>Ag<|Aa.regd 1<|Aq r_ (AB Ah)<|Aq r_ (Br Ah r_ r_ r_)<|Aq r_ (Ap (Cs r_))<|Aq r_ (Ap (Cs r_))<|Aq r_ (Bt (t:=T.int .i64) (y:=(2:Int)) (AW (I:=(IT.int .i64)) Ah AE) r_)<|A4.op r_ (Fb r_ Ah Ah) fun x72=>Do r_ (HY r_ r_ Ah) fun x73=>A4.inl (τ:=(Int×Al)) (φs:=[.cp 5 0, .val Ak x73]) (n:=1) (L:=[(2, .cp 2 0),(4, .val (T.sl Ak) x3),(5, .cp 5 0),(39, .kv 3400641),MW,Lg]) (Γr:=(fun p74=>⟨[(0, .val (T.int .i64) p74.1)],[(2, .cells [(53, .val Ae x1)]),(5, .cells [(53, .val Ae p74.2)]),E9,(2000004, .ghost (.val (T.sl Ak) x3)),Gd,mD,mC,mB,Fe,Bq,Bp,Bo,Dg,Df,De,Fd,DW,DV,DU]⟩)) r_ (.nil) 2000000 (fun p74=>⟨[(53, .val (T.int .i64) p74.1),(2, .cp 2 0),(4, .val (T.sl Ak) x3),(5, .cp 5 0),(39, .kv 3400641),MW,Lg],[(2, .cells [(53, .val Ae x1)]),(5, .cells [(53, .val Ae p74.2)]),Fe,Bq,Bp,Bo,Dg,Df,De,Fd,DW,DV,DU]⟩) (fun _=> .nil) QT r_ r_ r_ (CQ (Bl r_ r_) r_) (.cons (Jf Ah)<| .cons (Jf Ah)<| .nil) sB r_ (
 Af<|Ad (Ap AE)<|Ag<|Ab r_<|Ab r_<|Aa.op (Bn Nl (.one Ah)) fun x75=>Ab r_<|Ao (AY Ah r_) fun x76=>Ao (AY Ah r_) fun x77=>Ad (By Ah)<|Ad (AB Ah)<|Ai (AQ Ah Ah r_ r_ Dq r_) fun x78=>Ab r_<|Ag<|Ab r_<|Ab r_<|Ac<|A0 (x77,x78) (.cons (Dc r_)<| .nil) sB) (fun p74=>Au sB r_ (.one r_) trivial sB) fun p74=>Aq r_ (Ap (Cs r_))<|Ce<|Ag<|Ab r_<|Aj (Av r_ Ah AE) fun x79=>Ac<|Aa.cond Ah (Af<|Aj (C3 r_ r_ (.nil _)) fun x80=>Ab r_<|Ai (AQ Ah Ah r_ r_ (An _) r_) fun x81=>Ab r_<|Ac<|Aa.ret (.cons (Bw r_ r_ r_ (An _) r_ r_)<| .one (Az r_))) (Aa.skip<|A8<|Ac<|Ad (Bt (t:=T.int .i64) (y:=(2:Int)) (AW (I:=(IT.int .i64)) Ah AE) r_)<|Ab r_<|Ac<|AR (Γ':=⟨[(2, .cp 2 0),(4, .val (T.sl Ak) x3),(5, .cp 5 0),(39, .kv 3400641),MW,Xd],[(2, .cells [(53, .val Ae x1)]),(5, .cells [(53, .val Ae p74.2)]),Fe,Bq,Bp,Bo,Dg,Df,De,Fd,DW,DV,DU]⟩) sB r_<|Af<|Ad (Bt (t:=T.b) (y:=true) (Av r_ Ah Ah) r_)<|Ag<|BC Ah<|Aa.skip<|Ag<|Ax<|Af<|Ab r_<|Ad (DR (i:=2) (Bl r_ r_) r_ r_ Ah r_ (by decide))<|Ad (F0 Ah r_ r_ r_)<|Ai (A9 9 _ Dr r_ r_) fun _=>Ab r_<|Ai (Ba Ah Ah r_ r_ r_ r_) fun _=>Ag<|Aa.regd 1<|Aq r_ (AB Ah)<|Aq r_ (Br Ah r_ r_ r_)<|Aq r_ (Ap (Cs r_))<|Aq r_ (Ap (Cs r_))<|Aq r_ (Bt (t:=T.int .i64) (y:=(3:Int)) (AW (I:=(IT.int .i64)) Ah AE) r_)<|A4.op r_ (Fb r_ Ah Ah) fun x82=>Do r_ (HY r_ r_ Ah) fun x83=>A4.inl (τ:=(Int×Al)) (φs:=[.cp 5 0, .val Ak x83]) (n:=1) (L:=[(2, .cp 2 0),(4, .val (T.sl Ak) x3),(5, .cp 5 0),(39, .kv 3400641),MW,Xd]) (Γr:=(fun p84=>⟨[(0, .val (T.int .i64) p84.1)],[(2, .cells [(53, .val Ae x1)]),(5, .cells [(53, .val Ae p84.2)]),E9,(2000004, .ghost (.val (T.sl Ak) x3)),Gd,mD,mC,(2000041, .ghost (.val (T.int .i64) (2:Int))),Fe,Bq,Bp,Bo,Dg,Df,De,Fd,DW,DV,DU]⟩)) r_ (.nil) 2000000 (fun p84=>⟨[(53, .val (T.int .i64) p84.1),(2, .cp 2 0),(4, .val (T.sl Ak) x3),(5, .cp 5 0),(39, .kv 3400641),MW,Xd],[(2, .cells [(53, .val Ae x1)]),(5, .cells [(53, .val Ae p84.2)]),Fe,Bq,Bp,Bo,Dg,Df,De,Fd,DW,DV,DU]⟩) (fun _=> .nil) HM r_ r_ r_ (CQ (Bl r_ r_) r_) (.cons (Jf Ah)<| .cons (Jf Ah)<| .nil) sB r_ (
 Af<|Ad (Ap AE)<|Ag<|Ab r_<|Ab r_<|Aa.op (Bn (I2 (As:=[Ak]) ⟨CA,trivial⟩ CA GT) (.one Ah)) fun x85=>Ab r_<|Ao (AY Ah r_) fun x86=>Ao (AY Ah r_) fun x87=>Ad (By Ah)<|Ad (AB Ah)<|Ai (AQ Ah Ah r_ r_ Bv r_) fun x88=>Ab r_<|Ag<|Ab r_<|Ab r_<|Ac<|A0 (x87,x88) (.cons (Dc r_)<| .nil) sB) (fun p84=>Au sB r_ (.one r_) trivial sB) fun p84=>Aq r_ (Ap (Cs r_))<|Ce<|Ag<|Ab r_<|Aj (Av r_ Ah AE) fun x89=>Ac<|Aa.cond Ah (Af<|Aj (C3 r_ r_ (.nil _)) fun x90=>Ab r_<|Ai (AQ Ah Ah r_ r_ (An _) r_) fun x91=>Ab r_<|Ac<|Aa.ret (.cons (Bw r_ r_ r_ (An _) r_ r_)<| .one (Az r_))) (Aa.skip<|A8<|Ac<|Ad (Bt (t:=T.int .i64) (y:=(3:Int)) (AW (I:=(IT.int .i64)) Ah AE) r_)<|Ab r_<|Ac<|AR (Γ':=⟨[(2, .cp 2 0),(4, .val (T.sl Ak) x3),(5, .cp 5 0),(39, .kv 3400641),MW,(41, .val (T.int .i64) (3:Int))],[(2, .cells [(53, .val Ae x1)]),(5, .cells [(53, .val Ae p84.2)]),Fe,Bq,Bp,Bo,Dg,Df,De,Fd,DW,DV,DU]⟩) sB r_<|Af<|Ad (Bt (t:=T.b) (y:=false) (Av r_ Ah Ah) r_)<|Ag<|CF Ah<|AD<|AD<|AS<|Ag<|Ao (AJ (t:=Ae) (u:=Ae) Ah r_ r_ (An _) r_ r_) fun x92=>Ai (AQ Ah Ah r_ r_ (An _) r_) fun x93=>Ad (Ap AE)<|Ac<|Aa.ret (.cons (Bw r_ r_ r_ (An _) r_ r_)<| .one (Az r_)))))))) (.alt (.one fun p13=>Ab r_<|Ad (BE Ah r_)<|Ad (BE Ah r_)<|Ai (A9 6 _ Iv r_ r_) fun _=>Ai (Ba Ah (Bl r_ r_) r_ r_ r_ r_) fun _=>Ad (Ap (Bl r_ r_))<|Ag<|Ax<|Af<|Ab r_<|Aj (Fz Ah) fun x94=>Ab r_<|Ac<|Aa.cond Ah (Af<|Aj (C3 r_ r_ (.nil _)) fun x95=>Ai (AQ Ah Ah r_ r_ (An _) r_) fun x96=>Ad (Ap AE)<|Ac<|Aa.ret (.cons (Bw r_ r_ r_ (An _) r_ r_)<| .one (Az r_))) (Af<|Ab r_<|
 Aj (Dv Ah) fun x97=>Aj (EQ (I:=(IT.int .i64)) Ah AE) fun x98=>Ad (AB Ah)<|Ad (Br Ah r_ r_ r_)<|Ad (EU (n:=2) (Bl r_ r_) r_ r_)<|Aj (Av r_ Ah Ah) fun x99=>Ab r_<|Ac<|Aa.cond Ah (Af<|Aj (C3 r_ r_ (.nil _)) fun x100=>Ai (AQ Ah Ah r_ r_ (An _) r_) fun x101=>Ad (Ap AE)<|Ac<|Aa.ret (.cons (Bw r_ r_ r_ (An _) r_ r_)<| .one (Az r_))) (Aa.skip<|A8<|Ag<|Af<|Ad (AB Ah)<|Ad (Br Ah r_ r_ r_)<|Ad (EU (n:=2) (Bl r_ r_) r_ r_)<|Ad (Ap AE)<|Ac<|Ax<|AR (Γ':=⟨[(2, .cp 2 0),(4, .val (T.sl Ak) x3),(5, .cp 5 0),(39, .kv 3400881),Jz,GM],[(2, .cells [(53, .val Ae x1)]),(5, .cells [(53, .val Ae x9)]),Ha,DO,DN,DM,BX,BW,BV,GZ]⟩) sB r_<|Af<|Ad (Bt (t:=T.b) (y:=true) (Av r_ Ah Ah) r_)<|Ag<|BC Ah<|Aa.skip<|Ag<|Ax<|Af<|Ab r_<|Ad (DR (i:=0) (Bl r_ r_) r_ r_ Ah r_ (by decide))<|Ad (F0 Ah r_ r_ r_)<|Ai (A9 9 _ Dr r_ r_) fun _=>Ab r_<|Ai (Ba Ah Ah r_ r_ r_ r_) fun _=>Ag<|Aa.regd 1<|Aq r_ (AB Ah)<|Aq r_ (Br Ah r_ r_ r_)<|Aq r_ (Ap (Cs r_))<|Aq r_ (Ap (Cs r_))<|Aq r_ (Bt (t:=T.int .i64) (y:=(1:Int)) (AW (I:=(IT.int .i64)) Ah AE) r_)<|A4.op r_ (Fb r_ Ah Ah) fun x102=>Do r_ (HY r_ r_ Ah) fun x103=>A4.inl (τ:=(Int×Al)) (φs:=[.cp 5 0, .val Ak x103]) (n:=1) (L:=[(2, .cp 2 0),(4, .val (T.sl Ak) x3),(5, .cp 5 0),(39, .kv 3400881),Jz,GM]) (Γr:=(fun p104=>⟨[(0, .val (T.int .i64) p104.1)],[(2, .cells [(53, .val Ae x1)]),(5, .cells [(53, .val Ae p104.2)]),E9,(2000004, .ghost (.val (T.sl Ak) x3)),Gd,(2000039, .ghost (.kv 3400881)),bR,T5,Ha,DO,DN,DM,BX,BW,BV,GZ]⟩)) r_ (.nil) 2000000 (fun p104=>⟨[(53, .val (T.int .i64) p104.1),(2, .cp 2 0),(4, .val (T.sl Ak) x3),(5, .cp 5 0),(39, .kv 3400881),Jz,GM],[(2, .cells [(53, .val Ae x1)]),(5, .cells [(53, .val Ae p104.2)]),Ha,DO,DN,DM,BX,BW,BV,GZ]⟩) (fun _=> .nil) QT r_ r_ r_ (CQ (Bl r_ r_) r_) (.cons (Jf Ah)<| .cons (Jf Ah)<| .nil) sB r_ (
 Af<|Ad (Ap AE)<|Ag<|Ab r_<|Ab r_<|Aa.op (Bn Nl (.one Ah)) fun x105=>Ab r_<|Ao (AY Ah r_) fun x106=>Ao (AY Ah r_) fun x107=>Ad (By Ah)<|Ad (AB Ah)<|Ai (AQ Ah Ah r_ r_ Dq r_) fun x108=>Ab r_<|Ag<|Ab r_<|Ab r_<|Ac<|A0 (x107,x108) (.cons (Dc r_)<| .nil) sB) (fun p104=>Au sB r_ (.one r_) trivial sB) fun p104=>Aq r_ (Ap (Cs r_))<|Ce<|Ag<|Ab r_<|Aj (Av r_ Ah AE) fun x109=>Ac<|Aa.cond Ah (Af<|Aj (C3 r_ r_ (.nil _)) fun x110=>Ab r_<|Ai (AQ Ah Ah r_ r_ (An _) r_) fun x111=>Ab r_<|Ac<|Aa.ret (.cons (Bw r_ r_ r_ (An _) r_ r_)<| .one (Az r_))) (Aa.skip<|A8<|Ac<|Ad (Bt (t:=T.int .i64) (y:=(1:Int)) (AW (I:=(IT.int .i64)) Ah AE) r_)<|Ab r_<|Ac<|AR (Γ':=⟨[(2, .cp 2 0),(4, .val (T.sl Ak) x3),(5, .cp 5 0),(39, .kv 3400881),Jz,Lg],[(2, .cells [(53, .val Ae x1)]),(5, .cells [(53, .val Ae p104.2)]),Ha,DO,DN,DM,BX,BW,BV,GZ]⟩) sB r_<|Af<|Ad (Bt (t:=T.b) (y:=true) (Av r_ Ah Ah) r_)<|Ag<|BC Ah<|Aa.skip<|Ag<|Ax<|Af<|Ab r_<|Ad (DR (i:=1) (Bl r_ r_) r_ r_ Ah r_ (by decide))<|Ad (F0 Ah r_ r_ r_)<|Ai (A9 9 _ Dr r_ r_) fun _=>Ab r_<|Ai (Ba Ah Ah r_ r_ r_ r_) fun _=>Ag<|Aa.regd 1<|Aq r_ (AB Ah)<|Aq r_ (Br Ah r_ r_ r_)<|Aq r_ (Ap (Cs r_))<|Aq r_ (Ap (Cs r_))<|Aq r_ (Bt (t:=T.int .i64) (y:=(2:Int)) (AW (I:=(IT.int .i64)) Ah AE) r_)<|A4.op r_ (Fb r_ Ah Ah) fun x112=>Do r_ (HY r_ r_ Ah) fun x113=>A4.inl (τ:=(Int×Al)) (φs:=[.cp 5 0, .val Ak x113]) (n:=1) (L:=[(2, .cp 2 0),(4, .val (T.sl Ak) x3),(5, .cp 5 0),(39, .kv 3400881),Jz,Lg]) (Γr:=(fun p114=>⟨[(0, .val (T.int .i64) p114.1)],[(2, .cells [(53, .val Ae x1)]),(5, .cells [(53, .val Ae p114.2)]),E9,(2000004, .ghost (.val (T.sl Ak) x3)),Gd,(2000039, .ghost (.kv 3400881)),bR,mB,Ha,DO,DN,DM,BX,BW,BV,GZ]⟩)) r_ (.nil) 2000000 (fun p114=>⟨[(53, .val (T.int .i64) p114.1),(2, .cp 2 0),(4, .val (T.sl Ak) x3),(5, .cp 5 0),(39, .kv 3400881),Jz,Lg],[(2, .cells [(53, .val Ae x1)]),(5, .cells [(53, .val Ae p114.2)]),Ha,DO,DN,DM,BX,BW,BV,GZ]⟩) (fun _=> .nil) HM r_ r_ r_ (CQ (Bl r_ r_) r_) (.cons (Jf Ah)<| .cons (Jf Ah)<| .nil) sB r_ (
 Af<|Ad (Ap AE)<|Ag<|Ab r_<|Ab r_<|Aa.op (Bn (I2 (As:=[Ak]) ⟨CA,trivial⟩ CA GT) (.one Ah)) fun x115=>Ab r_<|Ao (AY Ah r_) fun x116=>Ao (AY Ah r_) fun x117=>Ad (By Ah)<|Ad (AB Ah)<|Ai (AQ Ah Ah r_ r_ Bv r_) fun x118=>Ab r_<|Ag<|Ab r_<|Ab r_<|Ac<|A0 (x117,x118) (.cons (Dc r_)<| .nil) sB) (fun p114=>Au sB r_ (.one r_) trivial sB) fun p114=>Aq r_ (Ap (Cs r_))<|Ce<|Ag<|Ab r_<|Aj (Av r_ Ah AE) fun x119=>Ac<|Aa.cond Ah (Af<|Aj (C3 r_ r_ (.nil _)) fun x120=>Ab r_<|Ai (AQ Ah Ah r_ r_ (An _) r_) fun x121=>Ab r_<|Ac<|Aa.ret (.cons (Bw r_ r_ r_ (An _) r_ r_)<| .one (Az r_))) (Aa.skip<|A8<|Ac<|Ad (Bt (t:=T.int .i64) (y:=(2:Int)) (AW (I:=(IT.int .i64)) Ah AE) r_)<|Ab r_<|Ac<|AR (Γ':=⟨[(2, .cp 2 0),(4, .val (T.sl Ak) x3),(5, .cp 5 0),(39, .kv 3400881),Jz,Xd],[(2, .cells [(53, .val Ae x1)]),(5, .cells [(53, .val Ae p114.2)]),Ha,DO,DN,DM,BX,BW,BV,GZ]⟩) sB r_<|Af<|Ad (Bt (t:=T.b) (y:=false) (Av r_ Ah Ah) r_)<|Ag<|CF Ah<|AD<|AD<|AS<|Ag<|Ao (AJ (t:=Ae) (u:=Ae) Ah r_ r_ (An _) r_ r_) fun x122=>Ai (AQ Ah Ah r_ r_ (An _) r_) fun x123=>Ad (Ap AE)<|Ac<|Aa.ret (.cons (Bw r_ r_ r_ (An _) r_ r_)<| .one (Az r_))))))) (.alt (.one fun p14=>Ab r_<|Ad (BE Ah r_)<|Ad (BE Ah r_)<|Ai (A9 6 _ Iv r_ r_) fun _=>Ai (Ba Ah (Bl r_ r_) r_ r_ r_ r_) fun _=>Ad (Ap (Bl r_ r_))<|Ag<|Ax<|Af<|Ab r_<|Aj (Fz Ah) fun x124=>Ab r_<|Ac<|Aa.cond Ah (Af<|Aj (C3 r_ r_ (.nil _)) fun x125=>Ai (AQ Ah Ah r_ r_ (An _) r_) fun x126=>Ad (Ap AE)<|Ac<|Aa.ret (.cons (Bw r_ r_ r_ (An _) r_ r_)<| .one (Az r_))) (Af<|Ab r_<|Aj (Dv Ah) fun x127=>
 Aj (EQ (I:=(IT.int .i64)) Ah AE) fun x128=>Ad (AB Ah)<|Ad (Br Ah r_ r_ r_)<|Ad (EU (n:=1) (Bl r_ r_) r_ r_)<|Aj (Av r_ Ah Ah) fun x129=>Ab r_<|Ac<|Aa.cond Ah (Af<|Aj (C3 r_ r_ (.nil _)) fun x130=>Ai (AQ Ah Ah r_ r_ (An _) r_) fun x131=>Ad (Ap AE)<|Ac<|Aa.ret (.cons (Bw r_ r_ r_ (An _) r_ r_)<| .one (Az r_))) (Aa.skip<|A8<|Ag<|Af<|Ad (AB Ah)<|Ad (Br Ah r_ r_ r_)<|Ad (EU (n:=1) (Bl r_ r_) r_ r_)<|Ad (Ap AE)<|Ac<|Ax<|AR (Γ':=⟨[(2, .cp 2 0),(4, .val (T.sl Ak) x3),(5, .cp 5 0),(39, .kv 3401081),Lh,GM],[(2, .cells [(53, .val Ae x1)]),(5, .cells [(53, .val Ae x9)]),JN,CM,CL,CJ,JM]⟩) sB r_<|Af<|Ad (Bt (t:=T.b) (y:=true) (Av r_ Ah Ah) r_)<|Ag<|BC Ah<|Aa.skip<|Ag<|Ax<|Af<|Ab r_<|Ad (DR (i:=0) (Bl r_ r_) r_ r_ Ah r_ (by decide))<|Ad (F0 Ah r_ r_ r_)<|Ai (A9 9 _ Dr r_ r_) fun _=>Ab r_<|Ai (Ba Ah Ah r_ r_ r_ r_) fun _=>Ag<|Aa.regd 1<|Aq r_ (AB Ah)<|Aq r_ (Br Ah r_ r_ r_)<|Aq r_ (Ap (Cs r_))<|Aq r_ (Ap (Cs r_))<|Aq r_ (Bt (t:=T.int .i64) (y:=(1:Int)) (AW (I:=(IT.int .i64)) Ah AE) r_)<|A4.op r_ (Fb r_ Ah Ah) fun x132=>Do r_ (HY r_ r_ Ah) fun x133=>A4.inl (τ:=(Int×Al)) (φs:=[.cp 5 0, .val Ak x133]) (n:=1) (L:=[(2, .cp 2 0),(4, .val (T.sl Ak) x3),(5, .cp 5 0),(39, .kv 3401081),Lh,GM]) (Γr:=(fun p134=>⟨[(0, .val (T.int .i64) p134.1)],[(2, .cells [(53, .val Ae x1)]),(5, .cells [(53, .val Ae p134.2)]),E9,(2000004, .ghost (.val (T.sl Ak) x3)),Gd,(2000039, .ghost (.kv 3401081)),mE,T5,JN,CM,CL,CJ,JM]⟩)) r_ (.nil) 2000000 (fun p134=>⟨[(53, .val (T.int .i64) p134.1),(2, .cp 2 0),(4, .val (T.sl Ak) x3),(5, .cp 5 0),(39, .kv 3401081),Lh,GM],[(2, .cells [(53, .val Ae x1)]),(5, .cells [(53, .val Ae p134.2)]),JN,CM,CL,CJ,JM]⟩) (fun _=> .nil) HM r_ r_ r_ (CQ (Bl r_ r_) r_) (.cons (Jf Ah)<| .cons (Jf Ah)<| .nil) sB r_ (
 Af<|Ad (Ap AE)<|Ag<|Ab r_<|Ab r_<|Aa.op (Bn (I2 (As:=[Ak]) ⟨CA,trivial⟩ CA GT) (.one Ah)) fun x135=>Ab r_<|Ao (AY Ah r_) fun x136=>Ao (AY Ah r_) fun x137=>Ad (By Ah)<|Ad (AB Ah)<|Ai (AQ Ah Ah r_ r_ Bv r_) fun x138=>Ab r_<|Ag<|Ab r_<|Ab r_<|Ac<|A0 (x137,x138) (.cons (Dc r_)<| .nil) sB) (fun p134=>Au sB r_ (.one r_) trivial sB) fun p134=>Aq r_ (Ap (Cs r_))<|Ce<|Ag<|Ab r_<|Aj (Av r_ Ah AE) fun x139=>Ac<|Aa.cond Ah (Af<|Aj (C3 r_ r_ (.nil _)) fun x140=>Ab r_<|Ai (AQ Ah Ah r_ r_ (An _) r_) fun x141=>Ab r_<|Ac<|Aa.ret (.cons (Bw r_ r_ r_ (An _) r_ r_)<| .one (Az r_))) (Aa.skip<|A8<|Ac<|Ad (Bt (t:=T.int .i64) (y:=(1:Int)) (AW (I:=(IT.int .i64)) Ah AE) r_)<|Ab r_<|Ac<|AR (Γ':=⟨[(2, .cp 2 0),(4, .val (T.sl Ak) x3),(5, .cp 5 0),(39, .kv 3401081),Lh,Lg],[(2, .cells [(53, .val Ae x1)]),(5, .cells [(53, .val Ae p134.2)]),JN,CM,CL,CJ,JM]⟩) sB r_<|Af<|Ad (Bt (t:=T.b) (y:=false) (Av r_ Ah Ah) r_)<|Ag<|CF Ah<|AD<|AD<|AS<|Ag<|Ao (AJ (t:=Ae) (u:=Ae) Ah r_ r_ (An _) r_ r_) fun x142=>Ai (AQ Ah Ah r_ r_ (An _) r_) fun x143=>Ad (Ap AE)<|Ac<|Aa.ret (.cons (Bw r_ r_ r_ (An _) r_ r_)<| .one (Az r_)))))) (.alt (.one fun p15=>Ab r_<|Ad (BE Ah r_)<|Ad (BE Ah r_)<|Ai (A9 6 _ Iv r_ r_) fun _=>Ai (Ba Ah (Bl r_ r_) r_ r_ r_ r_) fun _=>Ad (Ap (Bl r_ r_))<|Ag<|Ax<|Af<|Ab r_<|Aj (Fz Ah) fun x144=>Ab r_<|Ac<|Aa.cond Ah (Af<|Aj (C3 r_ r_ (.nil _)) fun x145=>Ai (AQ Ah Ah r_ r_ (An _) r_) fun x146=>Ad (Ap AE)<|Ac<|Aa.ret (.cons (Bw r_ r_ r_ (An _) r_ r_)<| .one (Az r_))) (Af<|Ab r_<|Aj (Dv Ah) fun x147=>Aj (EQ (I:=(IT.int .i64)) Ah AE) fun x148=>
 Ad (AB Ah)<|Ad (Br Ah r_ r_ r_)<|Ad (EU (n:=1) (Bl r_ r_) r_ r_)<|Aj (Av r_ Ah Ah) fun x149=>Ab r_<|Ac<|Aa.cond Ah (Af<|Aj (C3 r_ r_ (.nil _)) fun x150=>Ai (AQ Ah Ah r_ r_ (An _) r_) fun x151=>Ad (Ap AE)<|Ac<|Aa.ret (.cons (Bw r_ r_ r_ (An _) r_ r_)<| .one (Az r_))) (Aa.skip<|A8<|Ag<|Af<|Ad (AB Ah)<|Ad (Br Ah r_ r_ r_)<|Ad (EU (n:=1) (Bl r_ r_) r_ r_)<|Ad (Ap AE)<|Ac<|Ax<|AR (Γ':=⟨[(2, .cp 2 0),(4, .val (T.sl Ak) x3),(5, .cp 5 0),(39, .kv 3401281),Lh,GM],[(2, .cells [(53, .val Ae x1)]),(5, .cells [(53, .val Ae x9)]),JL,G7,G6,G5,JK]⟩) sB r_<|Af<|Ad (Bt (t:=T.b) (y:=true) (Av r_ Ah Ah) r_)<|Ag<|BC Ah<|Aa.skip<|Ag<|Ax<|Af<|Ab r_<|Ad (DR (i:=0) (Bl r_ r_) r_ r_ Ah r_ (by decide))<|Ad (F0 Ah r_ r_ r_)<|Ai (A9 9 _ Dr r_ r_) fun _=>Ab r_<|Ai (Ba Ah Ah r_ r_ r_ r_) fun _=>Ag<|Aa.regd 1<|Aq r_ (AB Ah)<|Aq r_ (Br Ah r_ r_ r_)<|Aq r_ (Ap (Cs r_))<|Aq r_ (Ap (Cs r_))<|Aq r_ (Bt (t:=T.int .i64) (y:=(1:Int)) (AW (I:=(IT.int .i64)) Ah AE) r_)<|A4.op r_ (Fb r_ Ah Ah) fun x152=>Do r_ (HY r_ r_ Ah) fun x153=>A4.inl (τ:=(Int×Al)) (φs:=[.cp 5 0, .val Ak x153]) (n:=1) (L:=[(2, .cp 2 0),(4, .val (T.sl Ak) x3),(5, .cp 5 0),(39, .kv 3401281),Lh,GM]) (Γr:=(fun p154=>⟨[(0, .val (T.int .i64) p154.1)],[(2, .cells [(53, .val Ae x1)]),(5, .cells [(53, .val Ae p154.2)]),E9,(2000004, .ghost (.val (T.sl Ak) x3)),Gd,(2000039, .ghost (.kv 3401281)),mE,T5,JL,G7,G6,G5,JK]⟩)) r_ (.nil) 2000000 (fun p154=>⟨[(53, .val (T.int .i64) p154.1),(2, .cp 2 0),(4, .val (T.sl Ak) x3),(5, .cp 5 0),(39, .kv 3401281),Lh,GM],[(2, .cells [(53, .val Ae x1)]),(5, .cells [(53, .val Ae p154.2)]),JL,G7,G6,G5,JK]⟩) (fun _=> .nil) Yq r_ r_ r_ (CQ (Bl r_ r_) r_) (.cons (Jf Ah)<| .cons (Jf Ah)<| .nil) sB r_ (
 Af<|Ad (Ap AE)<|Ag<|Ab r_<|Aa.op (Bn KW (.cons Ah<| .one (DA 20 r_))) fun x155=>Ab r_<|Ao (AY Ah r_) fun x156=>Ao (AY Ah r_) fun x157=>Ab r_<|Ab r_<|Ag<|Ab r_<|Ab r_<|Aj (Eu (I:=IT.u64) (J:=(IT.int .i64)) r_ Ah) fun x158=>Ad (By Ah)<|Ad (AB Ah)<|Ai (AQ Ah Ah r_ r_ CO r_) fun x159=>Ag<|Af<|Ab r_<|Aj (Av r_ Ah AE) fun x160=>Ab r_<|Aa.and 6 r_ r_ r_ (AF (Ap (Cs r_))<|AF (By Ah)<|AF (AB Ah)<|Ck (AJ (t:=Ae) (u:=(T.int .i64)) Ah r_ r_ CO r_ r_) fun x161=>Be.op (AN RA (.one Ah)) fun x162=>AX (Fz Ah) fun x163=>Be.nil Ah) fun x164=>Ac<|Aa.cond Ah (Ad (Ap AE)<|Ag<|Ab r_<|Ab r_<|Ac<|A0 (6,x159) (.cons (Dc r_)<| .nil) sB) (Aa.skip<|Ag<|Ab r_<|Ab r_<|Ac<|A0 (x157,x159) (.cons (Dc r_)<| .nil) sB)) (fun p154=>Au sB r_ (.one r_) trivial sB) fun p154=>Aq r_ (Ap (Cs r_))<|Ce<|Ag<|Ab r_<|Aj (Av r_ Ah AE) fun x165=>Ac<|Aa.cond Ah (Af<|Aj (C3 r_ r_ (.nil _)) fun x166=>Ab r_<|Ai (AQ Ah Ah r_ r_ (An _) r_) fun x167=>Ab r_<|Ac<|Aa.ret (.cons (Bw r_ r_ r_ (An _) r_ r_)<| .one (Az r_))) (Aa.skip<|A8<|Ac<|Ad (Bt (t:=T.int .i64) (y:=(1:Int)) (AW (I:=(IT.int .i64)) Ah AE) r_)<|Ab r_<|Ac<|AR (Γ':=⟨[(2, .cp 2 0),(4, .val (T.sl Ak) x3),(5, .cp 5 0),(39, .kv 3401281),Lh,Lg],[(2, .cells [(53, .val Ae x1)]),(5, .cells [(53, .val Ae p154.2)]),JL,G7,G6,G5,JK]⟩) sB r_<|Af<|Ad (Bt (t:=T.b) (y:=false) (Av r_ Ah Ah) r_)<|Ag<|CF Ah<|AD<|AD<|AS<|Ag<|Ao (AJ (t:=Ae) (u:=Ae) Ah r_ r_ (An _) r_ r_) fun x168=>Ai (AQ Ah Ah r_ r_ (An _) r_) fun x169=>Ad (Ap AE)<|Ac<|Aa.ret (.cons (Bw r_ r_ r_ (An _) r_ r_)<| .one (Az r_)))))) (.alt (.one fun p16=>
 Ab r_<|Ad (BE Ah r_)<|Ad (BE Ah r_)<|Ai (A9 6 _ Iv r_ r_) fun _=>Ai (Ba Ah (Bl r_ r_) r_ r_ r_ r_) fun _=>Ad (Ap (Bl r_ r_))<|Ag<|Ax<|Af<|Ab r_<|Aj (Fz Ah) fun x170=>Ab r_<|Ac<|Aa.cond Ah (Af<|Aj (C3 r_ r_ (.nil _)) fun x171=>Ai (AQ Ah Ah r_ r_ (An _) r_) fun x172=>Ad (Ap AE)<|Ac<|Aa.ret (.cons (Bw r_ r_ r_ (An _) r_ r_)<| .one (Az r_))) (Af<|Ab r_<|Aj (Dv Ah) fun x173=>Aj (EQ (I:=(IT.int .i64)) Ah AE) fun x174=>Ad (AB Ah)<|Ad (Br Ah r_ r_ r_)<|Ad (EU (n:=2) (Bl r_ r_) r_ r_)<|Aj (Av r_ Ah Ah) fun x175=>Ab r_<|Ac<|Aa.cond Ah (Af<|Aj (C3 r_ r_ (.nil _)) fun x176=>Ai (AQ Ah Ah r_ r_ (An _) r_) fun x177=>Ad (Ap AE)<|Ac<|Aa.ret (.cons (Bw r_ r_ r_ (An _) r_ r_)<| .one (Az r_))) (Aa.skip<|A8<|Ag<|Af<|Ad (AB Ah)<|Ad (Br Ah r_ r_ r_)<|Ad (EU (n:=2) (Bl r_ r_) r_ r_)<|Ad (Ap AE)<|Ac<|Ax<|AR (Γ':=⟨[(2, .cp 2 0),(4, .val (T.sl Ak) x3),(5, .cp 5 0),(39, .kv 3401521),Jz,GM],[(2, .cells [(53, .val Ae x1)]),(5, .cells [(53, .val Ae x9)]),GY,Bq,Bp,Bo,BX,BW,BV,GX]⟩) sB r_<|Af<|Ad (Bt (t:=T.b) (y:=true) (Av r_ Ah Ah) r_)<|Ag<|BC Ah<|Aa.skip<|Ag<|Ax<|Af<|Ab r_<|Ad (DR (i:=0) (Bl r_ r_) r_ r_ Ah r_ (by decide))<|Ad (F0 Ah r_ r_ r_)<|Ai (A9 9 _ Dr r_ r_) fun _=>Ab r_<|Ai (Ba Ah Ah r_ r_ r_ r_) fun _=>Ag<|Aa.regd 1<|Aq r_ (AB Ah)<|Aq r_ (Br Ah r_ r_ r_)<|Aq r_ (Ap (Cs r_))<|Aq r_ (Ap (Cs r_))<|Aq r_ (Bt (t:=T.int .i64) (y:=(1:Int)) (AW (I:=(IT.int .i64)) Ah AE) r_)<|A4.op r_ (Fb r_ Ah Ah) fun x178=>Do r_ (HY r_ r_ Ah) fun x179=>A4.inl (τ:=(Int×Al)) (φs:=[.cp 5 0, .val Ak x179]) (n:=1) (L:=[(2, .cp 2 0),(4, .val (T.sl Ak) x3),(5, .cp 5 0),(39, .kv 3401521),Jz,GM]) (Γr:=(fun p180=>⟨[(0, .val (T.int .i64) p180.1)],[(2, .cells [(53, .val Ae x1)]),(5, .cells [(53, .val Ae p180.2)]),E9,(2000004, .ghost (.val (T.sl Ak) x3)),Gd,(2000039, .ghost (.kv 3401521)),bR,T5,GY,Bq,Bp,Bo,BX,BW,BV,GX]⟩)) r_ (.nil) 2000000 (fun p180=>⟨[(53, .val (T.int .i64) p180.1),(2, .cp 2 0),(4, .val (T.sl Ak) x3),(5, .cp 5 0),(39, .kv 3401521),Jz,GM],[(2, .cells [(53, .val Ae x1)]),(5, .cells [(53, .val Ae p180.2)]),GY,Bq,Bp,Bo,BX,BW,BV,GX]⟩) (fun _=> .nil) Sp r_ r_ r_ (CQ (Bl r_ r_) r_) (.cons (Jf Ah)<| .cons (Jf Ah)<| .nil) sB r_ (
 Af<|Ad (Ap AE)<|Ag<|Ab r_<|Ab r_<|Aa.op (Bn Mq (.one Ah)) fun x181=>Ab r_<|Ao (AY Ah r_) fun x182=>Ao (AY Ah r_) fun x183=>Ad (By Ah)<|Ad (AB Ah)<|Ai (AQ Ah Ah r_ r_ CP r_) fun x184=>Ab r_<|Ag<|Ab r_<|Ab r_<|Ac<|A0 (x183,x184) (.cons (Dc r_)<| .nil) sB) (fun p180=>Au sB r_ (.one r_) trivial sB) fun p180=>Aq r_ (Ap (Cs r_))<|Ce<|Ag<|Ab r_<|Aj (Av r_ Ah AE) fun x185=>Ac<|Aa.cond Ah (Af<|Aj (C3 r_ r_ (.nil _)) fun x186=>Ab r_<|Ai (AQ Ah Ah r_ r_ (An _) r_) fun x187=>Ab r_<|Ac<|Aa.ret (.cons (Bw r_ r_ r_ (An _) r_ r_)<| .one (Az r_))) (Aa.skip<|A8<|Ac<|Ad (Bt (t:=T.int .i64) (y:=(1:Int)) (AW (I:=(IT.int .i64)) Ah AE) r_)<|Ab r_<|Ac<|AR (Γ':=⟨[(2, .cp 2 0),(4, .val (T.sl Ak) x3),(5, .cp 5 0),(39, .kv 3401521),Jz,Lg],[(2, .cells [(53, .val Ae x1)]),(5, .cells [(53, .val Ae p180.2)]),GY,Bq,Bp,Bo,BX,BW,BV,GX]⟩) sB r_<|Af<|Ad (Bt (t:=T.b) (y:=true) (Av r_ Ah Ah) r_)<|Ag<|BC Ah<|Aa.skip<|Ag<|Ax<|Af<|Ab r_<|Ad (DR (i:=1) (Bl r_ r_) r_ r_ Ah r_ (by decide))<|Ad (F0 Ah r_ r_ r_)<|Ai (A9 9 _ Dr r_ r_) fun _=>Ab r_<|Ai (Ba Ah Ah r_ r_ r_ r_) fun _=>Ag<|Aa.regd 1<|Aq r_ (AB Ah)<|Aq r_ (Br Ah r_ r_ r_)<|Aq r_ (Ap (Cs r_))<|Aq r_ (Ap (Cs r_))<|Aq r_ (Bt (t:=T.int .i64) (y:=(2:Int)) (AW (I:=(IT.int .i64)) Ah AE) r_)<|A4.op r_ (Fb r_ Ah Ah) fun x188=>Do r_ (HY r_ r_ Ah) fun x189=>A4.inl (τ:=(Int×Al)) (φs:=[.cp 5 0, .val Ak x189]) (n:=1) (L:=[(2, .cp 2 0),(4, .val (T.sl Ak) x3),(5, .cp 5 0),(39, .kv 3401521),Jz,Lg]) (Γr:=(fun p190=>⟨[(0, .val (T.int .i64) p190.1)],[(2, .cells [(53, .val Ae x1)]),(5, .cells [(53, .val Ae p190.2)]),E9,(2000004, .ghost (.val (T.sl Ak) x3)),Gd,(2000039, .ghost (.kv 3401521)),bR,mB,GY,Bq,Bp,Bo,BX,BW,BV,GX]⟩)) r_ (.nil) 2000000 (fun p190=>⟨[(53, .val (T.int .i64) p190.1),(2, .cp 2 0),(4, .val (T.sl Ak) x3),(5, .cp 5 0),(39, .kv 3401521),Jz,Lg],[(2, .cells [(53, .val Ae x1)]),(5, .cells [(53, .val Ae p190.2)]),GY,Bq,Bp,Bo,BX,BW,BV,GX]⟩) (fun _=> .nil) HM r_ r_ r_ (CQ (Bl r_ r_) r_) (.cons (Jf Ah)<| .cons (Jf Ah)<| .nil) sB r_ (
 Af<|Ad (Ap AE)<|Ag<|Ab r_<|Ab r_<|Aa.op (Bn (I2 (As:=[Ak]) ⟨CA,trivial⟩ CA GT) (.one Ah)) fun x191=>Ab r_<|Ao (AY Ah r_) fun x192=>Ao (AY Ah r_) fun x193=>Ad (By Ah)<|Ad (AB Ah)<|Ai (AQ Ah Ah r_ r_ Bv r_) fun x194=>Ab r_<|Ag<|Ab r_<|Ab r_<|Ac<|A0 (x193,x194) (.cons (Dc r_)<| .nil) sB) (fun p190=>Au sB r_ (.one r_) trivial sB) fun p190=>Aq r_ (Ap (Cs r_))<|Ce<|Ag<|Ab r_<|Aj (Av r_ Ah AE) fun x195=>Ac<|Aa.cond Ah (Af<|Aj (C3 r_ r_ (.nil _)) fun x196=>Ab r_<|Ai (AQ Ah Ah r_ r_ (An _) r_) fun x197=>Ab r_<|Ac<|Aa.ret (.cons (Bw r_ r_ r_ (An _) r_ r_)<| .one (Az r_))) (Aa.skip<|A8<|Ac<|Ad (Bt (t:=T.int .i64) (y:=(2:Int)) (AW (I:=(IT.int .i64)) Ah AE) r_)<|Ab r_<|Ac<|AR (Γ':=⟨[(2, .cp 2 0),(4, .val (T.sl Ak) x3),(5, .cp 5 0),(39, .kv 3401521),Jz,Xd],[(2, .cells [(53, .val Ae x1)]),(5, .cells [(53, .val Ae p190.2)]),GY,Bq,Bp,Bo,BX,BW,BV,GX]⟩) sB r_<|Af<|Ad (Bt (t:=T.b) (y:=false) (Av r_ Ah Ah) r_)<|Ag<|CF Ah<|AD<|AD<|AS<|Ag<|Ao (AJ (t:=Ae) (u:=Ae) Ah r_ r_ (An _) r_ r_) fun x198=>Ai (AQ Ah Ah r_ r_ (An _) r_) fun x199=>Ad (Ap AE)<|Ac<|Aa.ret (.cons (Bw r_ r_ r_ (An _) r_ r_)<| .one (Az r_))))))) (.one fun p17=>Ab r_<|Ad (BE Ah r_)<|Ad (BE Ah r_)<|Ai (A9 6 _ Iv r_ r_) fun _=>Ai (Ba Ah (Bl r_ r_) r_ r_ r_ r_) fun _=>Ad (Ap (Bl r_ r_))<|Ag<|Ax<|Af<|Ab r_<|Aj (Fz Ah) fun x200=>Ab r_<|Ac<|Aa.cond Ah (Af<|Aj (C3 r_ r_ (.nil _)) fun x201=>Ai (AQ Ah Ah r_ r_ (An _) r_) fun x202=>Ad (Ap AE)<|Ac<|Aa.ret (.cons (Bw r_ r_ r_ (An _) r_ r_)<| .one (Az r_))) (Af<|Ab r_<|Aj (Dv Ah) fun x203=>Aj (EQ (I:=(IT.int .i64)) Ah AE) fun x204=>
 Ad (AB Ah)<|Ad (Br Ah r_ r_ r_)<|Ad (bC (Bl r_ r_))<|Aj (Av r_ Ah Ah) fun x205=>Ab r_<|Ac<|Aa.cond Ah (Af<|Aj (C3 r_ r_ (.nil _)) fun x206=>Ai (AQ Ah Ah r_ r_ (An _) r_) fun x207=>Ad (Ap AE)<|Ac<|Aa.ret (.cons (Bw r_ r_ r_ (An _) r_ r_)<| .one (Az r_))) (Aa.skip<|A8<|Ag<|Af<|Ad (AB Ah)<|Ad (Br Ah r_ r_ r_)<|Ad (bC (Bl r_ r_))<|Ad (Ap AE)<|Ac<|Ax<|AR (Γ':=⟨[(2, .cp 2 0),(4, .val (T.sl Ak) x3),(5, .cp 5 0),(39, .kv 3401561),(40, .val (T.int .i64) (0:Int)),GM],[(2, .cells [(53, .val Ae x1)]),(5, .cells [(53, .val Ae x9)]),PD]⟩) sB r_<|Af<|Ad (Bt (t:=T.b) (y:=false) (Av r_ Ah Ah) r_)<|Ag<|CF Ah<|AD<|AD<|AS<|Ag<|Ao (AJ (t:=Ae) (u:=Ae) Ah r_ r_ (An _) r_ r_) fun x208=>Ai (AQ Ah Ah r_ r_ (An _) r_) fun x209=>Ad (Ap AE)<|Ac<|Aa.ret (.cons (Bw r_ r_ r_ (An _) r_ r_)<| .one (Az r_)))))))))))
theorem V7:Spec tb Gn [Ak] [Ae,(T.int .i64)] (fun a=>CB a):=
 Spec.of Yu r_ r_ r_ UB
noncomputable def Gh(a0:AH)(a1:UInt8):Option (GS AH):=(iter (fun(s1:(Int×Int×(GS AH)))=>if(decide (s1.2.1<(a0.length:Int)))=true then (DC a0 s1.2.1).bind fun x5=>if(decide ((x5.toNat:Int)=(a1.toNat:Int)))=true then (H8 a0 (some s1.1) (some s1.2.1)).bind fun x7=>(Ng 16 s1.2.2 [x7]).bind fun x9=>some (.inl (IntKind.i64.wrap (s1.2.1+1),IntKind.i64.wrap (s1.2.1+1),x9)) else some (.inl (s1.1,IntKind.i64.wrap (s1.2.1+1),s1.2.2)) else some (.inr (.inl (s1.1,s1.2.2)))) (0,0, .nil)).bind (Sum.elim (fun(p2:(Int×(GS AH)))=>(H8 a0 (some p2.1) none).bind fun x13=>(Ng 16 p2.2 [x13]).bind fun x15=>some x15) some)
noncomputable def XL(a:CG [Ak,T.u8]):Cw tb MA [Ak,T.u8] [(T.sl Ak)] a:=Af<|Ad (Ap (Ep (t:=Ak)))<|Aa.turn (OW (n:=4) (j:=1004) r_ r_)<|Ag<|Ad (Ap AE)<|Ag<|Ad (Ap (Ep (t:=Ak)))<|Aa.turn (OW (n:=6) (j:=2004) r_ r_)<|Ag<|Af<|Ad (Ap AE)<|Ac<|Ax<|Aa.loop (id:=0) (σ:=(Int×Int×(GS AH))) (τ:=(Int×(GS AH))) (fun s1=>⟨[(0, .val Ak a.1),(1, .val T.u8 a.2),(5, .val (T.int .i64) s1.1),(6, .own 2004),(7, .val (T.int .i64) s1.2.1)],[(2004, .row Ak s1.2.2)]⟩) (fun p2=>⟨[(0, .val Ak a.1),(5, .val (T.int .i64) p2.1),(6, .own 2004)],[(2004, .row Ak p2.2)]⟩) (0,0, .nil) sB (fun _=>r_) (fun s1=>Af<|Af<|Ab r_<|Ab r_<|Aj (Dj Ah) fun x3=>Aj (Av r_ Ah Ah) fun x4=>Ac<|Aa.cond Ah (Aa.skip<|Ag<|Ax<|Af<|Ab r_<|Ab r_<|Aa.op (DT Ah Ah) fun x5=>Ab r_<|Aj (E5 (I:=IT.u8) r_ Ah Ah) fun x6=>Ac<|Aa.cond Ah (Af<|Ab r_<|Ab r_<|Ab r_<|Ab r_<|Aa.op (Js Ah (.some Ah) (.some Ah)) fun x7=>Aj (Iz (t:=Ak) (n:=1) r_ r_ (.cons r_ Ah<| .nil _)) fun x8=>BJ (I3 r_ Ah r_ (MM Ah)) fun x9=>Ab r_<|Ac<|Ab r_<|Aj (AW (I:=(IT.int .i64)) Ah AE) fun x10=>Ab r_<|A8<|Ac<|Ab r_<|Aj (AW (I:=(IT.int .i64)) Ah AE) fun x11=>Ab r_<|Aa.next (x10,x11,x9) sB) (Aa.skip<|A8<|Ac<|Ab r_<|Aj (AW (I:=(IT.int .i64)) Ah AE) fun x12=>Ab r_<|Aa.next (s1.1,x12,s1.2.2) sB)) (AD<|C1 (s1.1,s1.2.2) sB)) (fun p2=>AS<|Ag<|Ab r_<|Ab r_<|Ab r_<|Aa.op (Js Ah (.some Ah) .none) fun x13=>Aj (Iz (t:=Ak) (n:=1) r_ r_ (.cons r_ Ah<| .nil _)) fun x14=>BJ (I3 r_ Ah r_ (MM Ah)) fun x15=>Ab r_<|Ac<|Aa.frzRow 2004 r_ r_<|Aa.ret (.one (Az r_)))
theorem HU:Spec tb Eb [Ak,T.u8] [(T.sl Ak)] (fun a=>Gh a.1 a.2):=
 Spec.of gV r_ r_ r_ XL
noncomputable def LA(a0:Int):Option AH:=(H8 [48,49,50,51,52,53,54,55,56,57,97,98,99,100,101,102] (some a0) (some (IntKind.i64.wrap (a0+1)))).bind fun x2=>some x2
noncomputable def XM(a:CG [(T.int .i64)]):Cw tb MB [(T.int .i64)] [Ak] a:=Af<|Ad (Ap D1)<|Ag<|Ab r_<|Ab r_<|Aj (AW (I:=(IT.int .i64)) Ah AE) fun x1=>Aa.op (Js D1 (.some Ah) (.some Ah)) fun x2=>Ab r_<|Ac<|Aa.ret (.one (Az r_))
theorem RC:Spec tb GH [(T.int .i64)] [Ak] (fun a=>LA a):=
 Spec.of gW r_ r_ r_ XM
noncomputable def JW(a0:UInt8)(a1:Bool):Option Int:=(iter (fun(s1:Int)=>if(decide (s1<16))=true then (LA s1).bind fun x4=>(DC x4 0).bind fun x5=>(JJ (decide ((x5.toNat:Int)=(a0.toNat:Int))) ((Cg a1 (some (decide (9<s1)))).bind fun x8=>(Cg x8 ((LA s1).bind fun x9=>(DC x9 0).bind fun x10=>let x11:=HF ((a0.toNat:Int)+((32:UInt8).toNat:Int));some (decide ((x10.toNat:Int)=(x11.toNat:Int))))).bind fun x13=>some x13)).bind fun x14=>if x14=true then (some s1).map fun r=> .inr (.inr r) else some (.inl (IntKind.i64.wrap (s1+1))) else some (.inr (.inl ()))) 0).bind (Sum.elim (fun(p2:Unit)=>some (-1)) some)
noncomputable def XN(a:CG [T.u8,T.b]):Cw tb MC [T.u8,T.b] [(T.int .i64)] a:=Af<|Ad (Ap AE)<|Ag<|Af<|Ad (Ap AE)<|Ac<|Ax<|Aa.loop (id:=0) (σ:=Int) (τ:=Unit) (fun s1=>⟨[(0, .val T.u8 a.1),(1, .val T.b a.2),(5, .val (T.int .i64) s1)],[]⟩) (fun p2=>⟨[],[]⟩) 0 sB (fun _=>r_) (fun s1=>Af<|Af<|Ab r_<|Aj (Av r_ Ah AE) fun x3=>Ac<|Aa.cond Ah (Aa.skip<|Ag<|Ax<|Af<|Ab r_<|Aa.op (AN RC (.one Ah)) fun x4=>Aa.op (DT Ah AE) fun x5=>Ab r_<|Aj (E5 (I:=IT.u8) r_ Ah Ah) fun x6=>Ab r_<|Aa.or 13 r_ r_ r_ (AF (Ap (Cs r_))<|AF (Ap (Cs r_))<|Be.and 2 r_ r_ r_ r_ r_ (AF (Ap (Cs r_))<|AX (Av r_ Ah AE) fun x7=>Be.nil Ah) fun x8=>AF (Ap (Cs r_))<|Be.and 6 r_ r_ r_ r_ r_ (AF (Ap (Cs r_))<|Be.op (AN RC (.one Ah)) fun x9=>Be.op (DT Ah AE) fun x10=>AF (Ap (Cs r_))<|AX (AW (I:=IT.u8) Ah (JY 32 r_)) fun x11=>AX (E5 (I:=IT.u8) r_ Ah Ah) fun x12=>Be.nil Ah) fun x13=>Be.nil Ah) fun x14=>Ac<|Aa.cond Ah (Af<|Ab r_<|Ab r_<|Ac<|BB<|Aa.ret (.one (Az r_))) (Aa.skip<|A8<|Ac<|Ab r_<|Aj (AW (I:=(IT.int .i64)) Ah AE) fun x15=>Ab r_<|Aa.next x15 sB)) (AD<|C1 () sB)) (fun p2=>AS<|Ag<|Ad (Ap AE)<|Ac<|Aa.ret (.one (Az r_)))
theorem NJ:Spec tb FK [T.u8,T.b] [(T.int .i64)] (fun a=>JW a.1 a.2):=
 Spec.of gX r_ r_ r_ XN
noncomputable def LS(a0:AH):Option ((GS UInt8)×Int):=(if 2=0 then none else some (Int.tmod (a0.length:Int) 2)).bind fun x2=>if(!decide (x2=0))=true then some (.nil,5) else (iter (fun(s4:(Int×(GS UInt8)))=>if(decide (s4.1<(a0.length:Int)))=true then (DC a0 s4.1).bind fun x8=>(JW x8 false).bind fun x9=>(DC a0 (IntKind.i64.wrap (s4.1+1))).bind fun x11=>(JW x11 false).bind fun x12=>(JJ (decide (x9<0)) (some (decide (x12<0)))).bind fun x15=>if x15=true then (some (.nil,5)).map fun r=> .inr (.inr r) else let x17:=IntKind.i64.wrap (IntKind.i64.wrap (16*x9)+x12);(Ng 1 s4.2 [HF x17]).bind fun x20=>some (.inl (IntKind.i64.wrap (s4.1+2),x20)) else some (.inr (.inl s4.2))) (0, .nil)).bind (Sum.elim (fun(p5:(GS UInt8))=>some (p5,0)) some)
noncomputable def VH(a:CG [Ak]):Cw tb L1 [Ak] [(T.sl T.u8),(T.int .i64)] a:=Af<|Ad (Ap (Ep (t:=T.u8)))<|Aa.turn (OW (n:=2) (j:=1002) r_ r_)<|Ad (Ap AE)<|Ag<|Af<|Ab r_<|Aj (Dj Ah) fun x1=>Aa.op (oG Ah AE) fun x2=>Aj (Av r_ Ah AE) fun x3=>Ac<|Aa.cond Ah (Af<|Ad (Ap (Ep (t:=T.u8)))<|Aa.turn (OW (n:=2) (j:=2002) r_ r_)<|Ad (Ap AE)<|Ac<|Aa.frzRow 2002 r_ r_<|Aa.ret (.cons (Az r_)<| .one (Az r_))) (Aa.skip<|Ag<|Ad (Ap (Ep (t:=T.u8)))<|Aa.turn (OW (n:=4) (j:=2002) r_ r_)<|Ag<|Af<|Ad (Ap AE)<|Ac<|Ax<|Aa.loop (id:=0) (σ:=(Int×(GS UInt8))) (τ:=(GS UInt8)) (fun s4=>⟨[(0, .val Ak a),(4, .own 2002),(5, .val (T.int .i64) s4.1)],[(2002, .row T.u8 s4.2)]⟩) (fun p5=>⟨[(4, .own 2002)],[(2002, .row T.u8 p5)]⟩) (0, .nil) sB (fun _=>r_) (fun s4=>Af<|Af<|Ab r_<|Ab r_<|Aj (Dj Ah) fun x6=>Aj (Av r_ Ah Ah) fun x7=>Ac<|Aa.cond Ah (Aa.skip<|Ag<|Ax<|Af<|Ab r_<|Ab r_<|Aa.op (DT Ah Ah) fun x8=>Aa.op (AN NJ (.cons Ah<| .one DF)) fun x9=>Ab r_<|Ab r_<|Aj (AW (I:=(IT.int .i64)) Ah AE) fun x10=>Aa.op (DT Ah Ah) fun x11=>Aa.op (AN NJ (.cons Ah<| .one DF)) fun x12=>Ab r_<|Ab r_<|Ag<|Af<|Ab r_<|Aj (Av r_ Ah AE) fun x13=>Ab r_<|Aa.or 2 r_ r_ r_ (AF (Ap (Cs r_))<|AX (Av r_ Ah AE) fun x14=>Be.nil Ah) fun x15=>Ac<|Aa.cond Ah (Af<|Ad (Ap (Ep (t:=T.u8)))<|Aa.turn (OW (n:=2) (j:=1002) r_ r_)<|Ad (Ap AE)<|Ac<|BB<|Aa.frzRow 1002 r_ r_<|Aa.ret (.cons (Az r_)<| .one (Az r_))) (Aa.skip<|Ac<|Ab r_<|Ab r_<|Aj (GW (I:=(IT.int .i64)) AE Ah) fun x16=>Ab r_<|Aj (AW (I:=(IT.int .i64)) Ah Ah) fun x17=>Aj (Eu (I:=(IT.int .i64)) (J:=IT.u8) r_ Ah) fun x18=>
 Aj (Iz (t:=T.u8) (n:=1) r_ r_ (.cons r_ Ah<| .nil _)) fun x19=>BJ (I3 r_ Ah r_ (MM Ah)) fun x20=>Ab r_<|A8<|Ac<|Ab r_<|Aj (AW (I:=(IT.int .i64)) Ah AE) fun x21=>Ab r_<|Aa.next (x21,x20) sB)) (AD<|C1 s4.2 sB)) (fun p5=>AS<|Ag<|Ab r_<|Ab r_<|Ad (Ap AE)<|Ac<|Aa.frzRow 2002 r_ r_<|Aa.ret (.cons (Az r_)<| .one (Az r_))))
theorem QE:Spec tb FW [Ak] [(T.sl T.u8),(T.int .i64)] (fun a=>LS a):=
 Spec.of bK r_ r_ r_ VH
noncomputable def Nn(a0:AH):Option ((GS UInt8)×Int):=if(decide (a0=[45]))=true then some (.nil,0) else (LS a0).bind fun x2=>(Cg (decide (x2.2=0)) (some (decide ((x2.1.l.length:Int)=0)))).bind fun x8=>if x8=true then some (x2.1,5) else some (x2.1,x2.2)
noncomputable def XF(a:CG [Ak]):Cw tb M4 [Ak] [(T.sl T.u8),(T.int .i64)] a:=Af<|Ad (Ap (Ep (t:=T.u8)))<|Ad (Ap AE)<|Ag<|Af<|Ab r_<|Aj (Hr Ah D1) fun x1=>Ac<|Aa.cond Ah (Af<|Ad (Ap (Ep (t:=T.u8)))<|Ad (Ap AE)<|Ac<|Aa.ret (.cons (Az r_)<| .one (Az r_))) (Aa.skip<|Ag<|Ab r_<|Aa.op (Bn (I2 (As:=[Ak]) ⟨CA,trivial⟩ CA QE) (.one Ah)) fun x2=>Ab r_<|Ao (AY Ah r_) fun x3=>Ao (AY Ah r_) fun x4=>Ab r_<|Ab r_<|Ag<|Af<|Ab r_<|Aj (Av r_ Ah AE) fun x5=>Ab r_<|Aa.and 3 r_ r_ r_ (AF (Ap (Cs r_))<|AX (Dv (Dp Ah)) fun x6=>AX (Av r_ Ah AE) fun x7=>Be.nil Ah) fun x8=>Ac<|Aa.cond Ah (Ad (Ap AE)<|Ag<|Ab r_<|Ab r_<|Ab r_<|Ab r_<|Ac<|Aa.ret (.cons (jZ r_)<| .one (Az r_))) (Aa.skip<|Ag<|Ab r_<|Ab r_<|Ab r_<|Ab r_<|Ac<|Aa.ret (.cons (jZ r_)<| .one (Az r_))))
theorem ZG:Spec tb Ia [Ak] [(T.sl T.u8),(T.int .i64)] (fun a=>Nn a):=
 Spec.of gL r_ r_ r_ XF
noncomputable def ZZ(a0:(GS UInt8)):Option ((Ar UInt8 32)×Int):=if(decide ((a0.l.length:Int)<32))=true then some (((T.arr 32 T.u8).z),3) else if(decide (32<(a0.l.length:Int)))=true then some (((T.arr 32 T.u8).z),4) else (iter (fun(s11:(Int×(Ar UInt8 32)))=>if(decide (s11.1<32))=true then (DC a0.l s11.1).bind fun x14=>(C2 32 s11.1).bind fun x16=>(if x16<32 then some (s11.2.set x16 x14)else none).bind fun x17=>some (.inl (IntKind.i64.wrap (s11.1+1),x17)) else some (.inr (.inl s11.2))) (0,(T.arr 32 T.u8).z)).bind (Sum.elim (fun(p12:(Ar UInt8 32))=>some (p12,0)) some)
noncomputable def jT(a:CG [(T.sl T.u8)]):Cw tb S6 [(T.sl T.u8)] [(T.arr 32 T.u8),(T.int .i64)] a:=Af<|Ai (B7 (t:=(T.arr 32 T.u8)) 2 r_ r_) fun x1=>Ad (Ap AE)<|Ag<|Ai (B7 (t:=(T.arr 32 T.u8)) 4 r_ r_) fun x2=>Ag<|Af<|Ab r_<|Aj (Dv Ah) fun x3=>Aj (Av r_ Ah AE) fun x4=>Ac<|Aa.cond Ah (Af<|Ao (AJ (t:=(T.arr 32 T.u8)) (u:=(T.arr 32 T.u8)) Ah r_ r_ (An _) r_ r_) fun x5=>Ai (AQ Ah Ah r_ r_ (An _) r_) fun x6=>Ad (Ap AE)<|Ac<|Aa.ret (.cons (Bw r_ r_ r_ (An _) r_ r_)<| .one (Az r_))) (Aa.skip<|Ag<|Af<|Ab r_<|Aj (Dv Ah) fun x7=>Aj (Av r_ Ah AE) fun x8=>Ac<|Aa.cond Ah (Af<|Ao (AJ (t:=(T.arr 32 T.u8)) (u:=(T.arr 32 T.u8)) Ah r_ r_ (An _) r_ r_) fun x9=>Ai (AQ Ah Ah r_ r_ (An _) r_) fun x10=>Ad (Ap AE)<|Ac<|Aa.ret (.cons (Bw r_ r_ r_ (An _) r_ r_)<| .one (Az r_))) (Aa.skip<|Ag<|Af<|Ad (Ap AE)<|Ac<|Ax<|Aa.loop (id:=0) (σ:=(Int×(Ar UInt8 32))) (τ:=(Ar UInt8 32)) (fun s11=>⟨[(0, .val (T.sl T.u8) a),(2, .cp 2 0),(4, .cp 4 0),(5, .val (T.int .i64) s11.1)],[(2, .cells [(32, .val (T.arr 32 T.u8) x1)]),(4, .cells [(32, .val (T.arr 32 T.u8) s11.2)])]⟩) (fun p12=>⟨[(2, .cp 2 0),(4, .cp 4 0)],[(2, .cells [(32, .val (T.arr 32 T.u8) x1)]),(4, .cells [(32, .val (T.arr 32 T.u8) p12)])]⟩) (0,x2) sB (fun _=>r_) (fun s11=>Af<|Af<|Ab r_<|Aj (Av r_ Ah AE) fun x13=>Ac<|Aa.cond Ah (Aa.skip<|Ag<|Ax<|Ab r_<|Ab r_<|Ab r_<|Aa.op (Fb r_ Ah Ah) fun x14=>Ao (HY r_ r_ Ah) fun x15=>Aa.op (DD Ah Ah) fun x16=>BJ (Ff (s:=(T.arr 32 T.u8)) (An _) r_ Ah Ah r_ r_) fun x17=>A8<|Ac<|Ab r_<|Aj (AW (I:=(IT.int .i64)) Ah AE) fun x18=>
 Ab r_<|Aa.next (x18,x17) sB) (AD<|C1 s11.2 sB)) (fun p12=>AS<|Ag<|Ao (AJ (t:=(T.arr 32 T.u8)) (u:=(T.arr 32 T.u8)) Ah r_ r_ (An _) r_ r_) fun x19=>Ai (AQ Ah Ah r_ r_ (An _) r_) fun x20=>Ad (Ap AE)<|Ac<|Aa.ret (.cons (Bw r_ r_ r_ (An _) r_ r_)<| .one (Az r_)))))
theorem pN:Spec tb LH [(T.sl T.u8)] [(T.arr 32 T.u8),(T.int .i64)] (fun a=>ZZ a):=
 Spec.of wP r_ r_ r_ jT
noncomputable def Jj(a0:AH):Option ((Ar UInt8 32)×Int):=(LS a0).bind fun x2=>if(!decide (x2.2=0))=true then let x6:=(⟨[0,0,0,0,0,0,0,0,0,0,0,0,0,0,0,0,0,0,0,0,0,0,0,0,0,0,0,0,0,0,0,0],rfl⟩:(Ar UInt8 32));some (x6,x2.2) else (ZZ x2.1).bind fun x8=>some (x8.1,x8.2)
noncomputable def SX(a:CG [Ak]):Cw tb J6 [Ak] [(T.arr 32 T.u8),(T.int .i64)] a:=Af<|Ai (B7 (t:=(T.arr 32 T.u8)) 2 r_ r_) fun x1=>Ad (Ap AE)<|Ag<|Ab r_<|Aa.op (Bn (I2 (As:=[Ak]) ⟨CA,trivial⟩ CA QE) (.one Ah)) fun x2=>Ab r_<|Ao (AY Ah r_) fun x3=>Ao (AY Ah r_) fun x4=>Ab r_<|Ab r_<|Ag<|Af<|Ab r_<|Aj (Av r_ Ah AE) fun x5=>Ac<|Aa.cond Ah (Af<|Ao (LY (t:=T.u8) (⟨[0,0,0,0,0,0,0,0,0,0,0,0,0,0,0,0,0,0,0,0,0,0,0,0,0,0,0,0,0,0,0,0],r_⟩:(Ar UInt8 32)) r_ (.nil _)) fun x6=>Ab r_<|Ai (AQ Ah Ah r_ r_ (An _) r_) fun x7=>Ab r_<|Ac<|Aa.ret (.cons (Bw r_ r_ r_ (An _) r_ r_)<| .one (Az r_))) (Aa.skip<|Ag<|Ab r_<|Aa.op (Bn pN (.one (Dp Ah))) fun x8=>Ao (AY Ah r_) fun x9=>Ao (AY Ah r_) fun x10=>Ai (AQ Ah Ah r_ r_ (An _) r_) fun x11=>Ab r_<|Ac<|Aa.ret (.cons (Bw r_ r_ r_ (An _) r_ r_)<| .one (Az r_)))
theorem U4:Spec tb F8 [Ak] [(T.arr 32 T.u8),(T.int .i64)] (fun a=>Jj a):=
 Spec.of WR r_ r_ r_ SX
noncomputable def RR(a0:AH):Option (AH×AH×Bool):=(iter (fun(s1:Int)=>let x5:=decide (IntKind.i64.wrap (s1+1)<(a0.length:Int));if x5=true then (DC a0 s1).bind fun x6=>let x7:=decide ((x6.toNat:Int)=((93:UInt8).toNat:Int));(Cg x7 ((DC a0 (IntKind.i64.wrap (s1+1))).bind fun x9=>let x10:=decide ((x9.toNat:Int)=((58:UInt8).toNat:Int));some x10)).bind fun x11=>if x11=true then (H8 a0 none (some s1)).bind fun x12=>(H8 a0 (some (IntKind.i64.wrap (s1+2))) none).bind fun x14=>(some (x12,x14,true)).map fun r=> .inr (.inr r) else some (.inl (IntKind.i64.wrap (s1+1))) else some (.inr (.inl ()))) 0).bind (Sum.elim (fun(p2:Unit)=>some ([],[],false)) some)
noncomputable def dL(a:CG [Ak]):Cw tb Ql [Ak] [Ak,Ak,T.b] a:=Af<|Ad (Ap D1)<|Ad (Ap D1)<|Ad (Ap DF)<|Ag<|Af<|Ad (Ap AE)<|Ac<|Ax<|Aa.loop (id:=0) (σ:=Int) (τ:=Unit) (fun s1=>⟨[(0, .val Ak a),(5, .val (T.int .i64) s1)],[]⟩) (fun p2=>⟨[],[]⟩) 0 sB (fun _=>r_) (fun s1=>Af<|Af<|Ab r_<|Aj (AW (I:=(IT.int .i64)) Ah AE) fun x3=>Ab r_<|Aj (Dj Ah) fun x4=>Aj (Av r_ Ah Ah) fun x5=>Ac<|Aa.cond Ah (Aa.skip<|Ag<|Ax<|Af<|Ab r_<|Ab r_<|Aa.op (DT Ah Ah) fun x6=>Aj (E5 (I:=IT.u8) r_ Ah (JY 93 r_)) fun x7=>Ab r_<|Aa.and 5 r_ r_ r_ (AF (Ap (Cs r_))<|AF (Ap (Cs r_))<|AX (AW (I:=(IT.int .i64)) Ah AE) fun x8=>Be.op (DT Ah Ah) fun x9=>AX (E5 (I:=IT.u8) r_ Ah (JY 58 r_)) fun x10=>Be.nil Ah) fun x11=>Ac<|Aa.cond Ah (Af<|Ab r_<|Ab r_<|Aa.op (Js Ah .none (.some Ah)) fun x12=>Ab r_<|Ab r_<|Aj (AW (I:=(IT.int .i64)) Ah AE) fun x13=>Aa.op (Js Ah (.some Ah) .none) fun x14=>Ab r_<|Ab r_<|Ad (Ap DF)<|Ac<|BB<|Aa.ret (.cons (Az r_)<| .cons (Az r_)<| .one (Az r_))) (Aa.skip<|A8<|Ac<|Ab r_<|Aj (AW (I:=(IT.int .i64)) Ah AE) fun x15=>Ab r_<|Aa.next x15 sB)) (AD<|C1 () sB)) (fun p2=>AS<|Ag<|Ad (Ap D1)<|Ad (Ap D1)<|Ad (Ap DF)<|Ac<|Aa.ret (.cons (Az r_)<| .cons (Az r_)<| .one (Az r_)))
theorem jN:Spec tb Ka [Ak] [Ak,Ak,T.b] (fun a=>RR a):=
 Spec.of rU r_ r_ r_ dL
noncomputable def Vk(a0:AH):Option Int:=(iter (fun(s1:Int)=>let x5:=decide (IntKind.i64.wrap (s1+1)<(a0.length:Int));if x5=true then (DC a0 s1).bind fun x6=>let x7:=decide ((x6.toNat:Int)=((58:UInt8).toNat:Int));(Cg x7 ((DC a0 (IntKind.i64.wrap (s1+1))).bind fun x9=>let x10:=decide ((x9.toNat:Int)=((58:UInt8).toNat:Int));some x10)).bind fun x11=>if x11=true then (some s1).map fun r=> .inr (.inr r) else some (.inl (IntKind.i64.wrap (s1+1))) else some (.inr (.inl ()))) 0).bind (Sum.elim (fun(p2:Unit)=>some (-1)) some)
noncomputable def dM(a:CG [Ak]):Cw tb Qm [Ak] [(T.int .i64)] a:=Af<|Ad (Ap AE)<|Ag<|Af<|Ad (Ap AE)<|Ac<|Ax<|Aa.loop (id:=0) (σ:=Int) (τ:=Unit) (fun s1=>⟨[(0, .val Ak a),(3, .val (T.int .i64) s1)],[]⟩) (fun p2=>⟨[],[]⟩) 0 sB (fun _=>r_) (fun s1=>Af<|Af<|Ab r_<|Aj (AW (I:=(IT.int .i64)) Ah AE) fun x3=>Ab r_<|Aj (Dj Ah) fun x4=>Aj (Av r_ Ah Ah) fun x5=>Ac<|Aa.cond Ah (Aa.skip<|Ag<|Ax<|Af<|Ab r_<|Ab r_<|Aa.op (DT Ah Ah) fun x6=>Aj (E5 (I:=IT.u8) r_ Ah (JY 58 r_)) fun x7=>Ab r_<|Aa.and 5 r_ r_ r_ (AF (Ap (Cs r_))<|AF (Ap (Cs r_))<|AX (AW (I:=(IT.int .i64)) Ah AE) fun x8=>Be.op (DT Ah Ah) fun x9=>AX (E5 (I:=IT.u8) r_ Ah (JY 58 r_)) fun x10=>Be.nil Ah) fun x11=>Ac<|Aa.cond Ah (Af<|Ab r_<|Ab r_<|Ac<|BB<|Aa.ret (.one (Az r_))) (Aa.skip<|A8<|Ac<|Ab r_<|Aj (AW (I:=(IT.int .i64)) Ah AE) fun x12=>Ab r_<|Aa.next x12 sB)) (AD<|C1 () sB)) (fun p2=>AS<|Ag<|Ad (Ap AE)<|Ac<|Aa.ret (.one (Az r_)))
theorem jO:Spec tb Kb [Ak] [(T.int .i64)] (fun a=>Vk a):=
 Spec.of rV r_ r_ r_ dM
noncomputable def Iu(a0:AH):Option Int:=(JJ (decide ((a0.length:Int)<1)) (some (decide (4<(a0.length:Int))))).bind fun x5=>if x5=true then some (-1) else (iter (fun(s6:(Int×Int))=>if(decide (s6.2<(a0.length:Int)))=true then (DC a0 s6.2).bind fun x10=>(JW x10 true).bind fun x11=>if(decide (x11<0))=true then (some (-1)).map fun r=> .inr (.inr r) else let x14:=IntKind.i64.wrap (IntKind.i64.wrap (16*s6.1)+x11);some (.inl (x14,IntKind.i64.wrap (s6.2+1))) else some (.inr (.inl s6.1))) (0,0)).bind (Sum.elim (fun(p7:Int)=>some p7) some)
noncomputable def RI(a:CG [Ak]):Cw tb I7 [Ak] [(T.int .i64)] a:=Af<|Ad (Ap AE)<|Ag<|Af<|Ab r_<|Aj (Dj Ah) fun x1=>Aj (Av r_ Ah AE) fun x2=>Ab r_<|Aa.or 3 r_ r_ r_ (AF (Ap (Cs r_))<|AX (Dj Ah) fun x3=>AX (Av r_ Ah AE) fun x4=>Be.nil Ah) fun x5=>Ac<|Aa.cond Ah (Af<|Ad (Ap AE)<|Ac<|Aa.ret (.one (Az r_))) (Aa.skip<|Ag<|Ad (Ap AE)<|Ag<|Af<|Ad (Ap AE)<|Ac<|Ax<|Aa.loop (id:=0) (σ:=(Int×Int)) (τ:=Int) (fun s6=>⟨[(0, .val Ak a),(3, .val (T.int .i64) s6.1),(4, .val (T.int .i64) s6.2)],[]⟩) (fun p7=>⟨[(3, .val (T.int .i64) p7)],[]⟩) (0,0) sB (fun _=>r_) (fun s6=>Af<|Af<|Ab r_<|Ab r_<|Aj (Dj Ah) fun x8=>Aj (Av r_ Ah Ah) fun x9=>Ac<|Aa.cond Ah (Aa.skip<|Ag<|Ax<|Af<|Ab r_<|Ab r_<|Aa.op (DT Ah Ah) fun x10=>Aa.op (AN NJ (.cons Ah<| .one DF)) fun x11=>Ab r_<|Ag<|Af<|Ab r_<|Aj (Av r_ Ah AE) fun x12=>Ac<|Aa.cond Ah (Af<|Ad (Ap AE)<|Ac<|BB<|Aa.ret (.one (Az r_))) (Aa.skip<|Ac<|Ab r_<|Aj (GW (I:=(IT.int .i64)) AE Ah) fun x13=>Ab r_<|Aj (AW (I:=(IT.int .i64)) Ah Ah) fun x14=>Ab r_<|A8<|Ac<|Ab r_<|Aj (AW (I:=(IT.int .i64)) Ah AE) fun x15=>Ab r_<|Aa.next (x14,x15) sB)) (AD<|C1 s6.1 sB)) (fun p7=>AS<|Ag<|Ab r_<|Ab r_<|Ac<|Aa.ret (.one (Az r_))))
theorem SQ:Spec tb Fh [Ak] [(T.int .i64)] (fun a=>Iu a):=
 Spec.of UT r_ r_ r_ RI
noncomputable def NS(a0:AH):Option Int:=(iter (fun(s1:Int)=>(Cg (decide (s1<(a0.length:Int))) ((DC a0 s1).bind fun x5=>let x6:=decide (((48:UInt8).toNat:Int)≤(x5.toNat:Int));some x6)).bind fun x7=>(Cg x7 ((DC a0 s1).bind fun x8=>let x9:=decide ((x8.toNat:Int)≤((57:UInt8).toNat:Int));some x9)).bind fun x10=>if x10=true then some (.inl (IntKind.i64.wrap (s1+1))) else some (.inr (.inl s1))) 0).bind (Sum.elim (fun(p2:Int)=>some p2) some)
noncomputable def VI(a:CG [Ak]):Cw tb L2 [Ak] [(T.int .i64)] a:=Af<|Ad (Ap AE)<|Ag<|Ad (Ap AE)<|Ag<|Ax<|Aa.loop (id:=0) (σ:=Int) (τ:=Int) (fun s1=>⟨[(0, .val Ak a),(3, .val (T.int .i64) s1)],[]⟩) (fun p2=>⟨[(3, .val (T.int .i64) p2)],[]⟩) 0 sB (fun _=>r_) (fun s1=>Af<|Af<|Ab r_<|Ab r_<|Aj (Dj Ah) fun x3=>Aj (Av r_ Ah Ah) fun x4=>Ab r_<|Aa.and 4 r_ r_ r_ (AF (Ap (Cs r_))<|AF (Ap (Cs r_))<|Be.op (DT Ah Ah) fun x5=>AX (E5 (I:=IT.u8) r_ Ah (JY 48 r_)) fun x6=>Be.nil Ah) fun x7=>Ab r_<|Aa.and 4 r_ r_ r_ (AF (Ap (Cs r_))<|AF (Ap (Cs r_))<|Be.op (DT Ah Ah) fun x8=>AX (E5 (I:=IT.u8) r_ Ah (JY 57 r_)) fun x9=>Be.nil Ah) fun x10=>Ac<|Aa.cond Ah (Aa.skip<|Ac<|Ax<|Ab r_<|Aj (AW (I:=(IT.int .i64)) Ah AE) fun x11=>Ab r_<|A8<|Aa.next x11 sB) (AD<|C1 s1 sB)) (fun p2=>AS<|Ag<|Ab r_<|Ab r_<|Ac<|Aa.ret (.one (Az r_)))
theorem X9:Spec tb Hk [Ak] [(T.int .i64)] (fun a=>NS a):=
 Spec.of bL r_ r_ r_ VI
noncomputable def KD(a0:AH)(a1:UInt64):Option (UInt64×Int):=(JJ (decide ((a0.length:Int)=0)) ((NS a0).bind fun x3=>some (decide (x3<(a0.length:Int))))).bind fun x6=>(JJ x6 ((Cg (decide (1<(a0.length:Int))) ((DC a0 0).bind fun x9=>let x10:=decide ((x9.toNat:Int)=((48:UInt8).toNat:Int));some x10)).bind fun x11=>some x11)).bind fun x12=>if x12=true then some ((0:UInt64),5) else (iter (fun(s13:(UInt64×Int))=>if(decide (s13.2<(a0.length:Int)))=true then (DC a0 s13.2).bind fun x17=>let x19:=CI (((CI (x17.toNat:Int)).toNat:Int)-((48:UInt64).toNat:Int));(if((10:UInt64).toNat:Int)=0 then none else some (CI (Int.tdiv (a1.toNat:Int) ((10:UInt64).toNat:Int)))).bind fun x20=>(JJ (decide ((x20.toNat:Int)<(s13.1.toNat:Int))) (let x22:=CI (((10:UInt64).toNat:Int)*(s13.1.toNat:Int));let x23:=if(a1.toNat:Int)<(x19.toNat:Int)then a1 else x19;let x25:=decide (((CI ((a1.toNat:Int)-(x23.toNat:Int))).toNat:Int)<(x22.toNat:Int));some x25)).bind fun x26=>(JJ x26 (some (decide ((a1.toNat:Int)<(x19.toNat:Int))))).bind fun x28=>if x28=true then (some ((0:UInt64),6)).map fun r=> .inr (.inr r) else let x29:=CI (((10:UInt64).toNat:Int)*(s13.1.toNat:Int));some (.inl (CI ((x29.toNat:Int)+(x19.toNat:Int)),IntKind.i64.wrap (s13.2+1))) else some (.inr (.inl s13.1))) ((0:UInt64),0)).bind (Sum.elim (fun(p14:UInt64)=>some (p14,0)) some)
noncomputable def ZQ(a:CG [Ak,T.u64]):Cw tb Oz [Ak,T.u64] [T.u64,(T.int .i64)] a:=Af<|Ad (Ap (DA 0 r_))<|Ad (Ap AE)<|Ag<|Af<|Ab r_<|Aj (Dj Ah) fun x1=>Aj (Av r_ Ah AE) fun x2=>Ab r_<|Aa.or 5 r_ r_ r_ (AF (Ap (Cs r_))<|Be.op (AN X9 (.one Ah)) fun x3=>AF (Ap (Cs r_))<|AX (Dj Ah) fun x4=>AX (Av r_ Ah Ah) fun x5=>Be.nil Ah) fun x6=>Ab r_<|Aa.or 8 r_ r_ r_ (AF (Ap (Cs r_))<|AX (Dj Ah) fun x7=>AX (Av r_ Ah AE) fun x8=>AF (Ap (Cs r_))<|Be.and 3 r_ r_ r_ r_ r_ (AF (Ap (Cs r_))<|Be.op (DT Ah AE) fun x9=>AX (E5 (I:=IT.u8) r_ Ah (JY 48 r_)) fun x10=>Be.nil Ah) fun x11=>Be.nil Ah) fun x12=>Ac<|Aa.cond Ah (Af<|Ad (Ap (DA 0 r_))<|Ad (Ap AE)<|Ac<|Aa.ret (.cons (Az r_)<| .one (Az r_))) (Aa.skip<|Ag<|Ad (Ap (DA 0 r_))<|Ag<|Af<|Ad (Ap AE)<|Ac<|Ax<|Aa.loop (id:=0) (σ:=(UInt64×Int)) (τ:=UInt64) (fun s13=>⟨[(0, .val Ak a.1),(1, .val T.u64 a.2),(6, .val T.u64 s13.1),(7, .val (T.int .i64) s13.2)],[]⟩) (fun p14=>⟨[(6, .val T.u64 p14)],[]⟩) ((0:UInt64),0) sB (fun _=>r_) (fun s13=>Af<|Af<|Ab r_<|Ab r_<|Aj (Dj Ah) fun x15=>Aj (Av r_ Ah Ah) fun x16=>Ac<|Aa.cond Ah (Aa.skip<|Ag<|Ax<|Af<|Ab r_<|Ab r_<|Aa.op (DT Ah Ah) fun x17=>Aj (Eu (I:=IT.u8) (J:=IT.u64) r_ Ah) fun x18=>Aj (EQ (I:=IT.u64) Ah (DA 48 r_)) fun x19=>Ab r_<|Ag<|Af<|Ab r_<|Ab r_<|Aa.op (P6 (I:=IT.u64) Ah (DA 10 r_)) fun x20=>Aj (E5 (I:=IT.u64) r_ Ah Ah) fun x21=>Ab r_<|Aa.or 8 r_ r_ r_ (AF (Ap (Cs r_))<|AX (GW (I:=IT.u64) (DA 10 r_) Ah) fun x22=>AF (Ap (Cs r_))<|AF (Ap (Cs r_))<|AF (Ap (Cs r_))<|AX (h_max (I:=IT.u64) (mx:=false) Ah Ah) fun x23=>
 AX (EQ (I:=IT.u64) Ah Ah) fun x24=>AX (E5 (I:=IT.u64) r_ Ah Ah) fun x25=>Be.nil Ah) fun x26=>Ab r_<|Aa.or 3 r_ r_ r_ (AF (Ap (Cs r_))<|AF (Ap (Cs r_))<|AX (E5 (I:=IT.u64) r_ Ah Ah) fun x27=>Be.nil Ah) fun x28=>Ac<|Aa.cond Ah (Af<|Ad (Ap (DA 0 r_))<|Ad (Ap AE)<|Ac<|BB<|Aa.ret (.cons (Az r_)<| .one (Az r_))) (Aa.skip<|Ac<|Ab r_<|Aj (GW (I:=IT.u64) (DA 10 r_) Ah) fun x29=>Ab r_<|Aj (AW (I:=IT.u64) Ah Ah) fun x30=>Ab r_<|A8<|Ac<|Ab r_<|Aj (AW (I:=(IT.int .i64)) Ah AE) fun x31=>Ab r_<|Aa.next (x30,x31) sB)) (AD<|C1 s13.1 sB)) (fun p14=>AS<|Ag<|Ab r_<|Ab r_<|Ad (Ap AE)<|Ac<|Aa.ret (.cons (Az r_)<| .one (Az r_))))
theorem Ph:Spec tb G2 [Ak,T.u64] [T.u64,(T.int .i64)] (fun a=>KD a.1 a.2):=
 Spec.of lV r_ r_ r_ ZQ
noncomputable def L9(a0:AH):Option ((Ar UInt8 4)×Int):=(Gh a0 (46:UInt8)).bind fun x3=>if(!decide ((x3.l.length:Int)=4))=true then some ((⟨[0,0,0,0],rfl⟩:(Ar UInt8 4)),5) else (iter (fun(s8:(Int×(Ar UInt8 4)))=>if(decide (s8.1<4))=true then (DC x3.l s8.1).bind fun x11=>(KD x11 (255:UInt64)).bind fun x13=>if(!decide (x13.2=0))=true then (some ((⟨[0,0,0,0],rfl⟩:(Ar UInt8 4)),x13.2)).map fun r=> .inr (.inr r) else (C2 4 s8.1).bind fun x20=>(if x20<4 then some (s8.2.set x20 (HF (x13.1.toNat:Int)))else none).bind fun x21=>some (.inl (IntKind.i64.wrap (s8.1+1),x21)) else some (.inr (.inl s8.2))) (0,(T.arr 4 T.u8).z)).bind (Sum.elim (fun(p9:(Ar UInt8 4))=>some (p9,0)) some)
noncomputable def XK(a:CG [Ak]):Cw tb M9 [Ak] [(T.arr 4 T.u8),(T.int .i64)] a:=Af<|Ai (B7 (t:=(T.arr 4 T.u8)) 2 r_ r_) fun x1=>Ad (Ap AE)<|Ag<|Ai (B7 (t:=(T.arr 4 T.u8)) 4 r_ r_) fun x2=>Ag<|Ab r_<|Aa.op (AN (ND (As:=[Ak,T.u8]) ⟨CA,CA,trivial⟩ HU) (.cons Ah<| .one (JY 46 r_))) fun x3=>Ab r_<|Ag<|Af<|Ab r_<|Aj (Dv (Dp Ah)) fun x4=>Aj (Av r_ Ah AE) fun x5=>Ac<|Aa.cond Ah (Af<|Ao (LY (t:=T.u8) (⟨[0,0,0,0],r_⟩:(Ar UInt8 4)) r_ (.nil _)) fun x6=>Ai (AQ Ah Ah r_ r_ (An _) r_) fun x7=>Ad (Ap AE)<|Ac<|Aa.ret (.cons (Bw r_ r_ r_ (An _) r_ r_)<| .one (Az r_))) (Aa.skip<|Ag<|Af<|Ad (Ap AE)<|Ac<|Ax<|Aa.loop (id:=0) (σ:=(Int×(Ar UInt8 4))) (τ:=(Ar UInt8 4)) (fun s8=>⟨[(2, .cp 2 0),(4, .cp 4 0),(5, .val (Ml (T.sl Ak)) x3),(6, .val (T.int .i64) s8.1)],[(2, .cells [(4, .val (T.arr 4 T.u8) x1)]),(4, .cells [(4, .val (T.arr 4 T.u8) s8.2)])]⟩) (fun p9=>⟨[(2, .cp 2 0),(4, .cp 4 0)],[(2, .cells [(4, .val (T.arr 4 T.u8) x1)]),(4, .cells [(4, .val (T.arr 4 T.u8) p9)])]⟩) (0,x2) sB (fun _=>r_) (fun s8=>Af<|Af<|Ab r_<|Aj (Av r_ Ah AE) fun x10=>Ac<|Aa.cond Ah (Aa.skip<|Ag<|Ax<|Af<|Ab r_<|Ab r_<|Aa.op (Fb r_ (Dp Ah) Ah) fun x11=>Ao (HY r_ r_ Ah) fun x12=>Aa.op (Bn Ph (.cons Ah<| .one (DA 255 r_))) fun x13=>Ab r_<|Ao (AY Ah r_) fun x14=>Ao (AY Ah r_) fun x15=>Ab r_<|Ab r_<|Ag<|Af<|Ab r_<|Aj (Av r_ Ah AE) fun x16=>Ac<|Aa.cond Ah (Af<|Ao (LY (t:=T.u8) (⟨[0,0,0,0],r_⟩:(Ar UInt8 4)) r_ (.nil _)) fun x17=>Ab r_<|Ai (AQ Ah Ah r_ r_ (An _) r_) fun x18=>Ab r_<|Ac<|BB<|Aa.ret (.cons (Bw r_ r_ r_ (An _) r_ r_)<| .one (Az r_))) (
 Aa.skip<|Ac<|Ab r_<|Ab r_<|Aj (Eu (I:=IT.u64) (J:=IT.u8) r_ Ah) fun x19=>Aa.op (DD Ah Ah) fun x20=>BJ (Ff (s:=(T.arr 4 T.u8)) (An _) r_ Ah Ah r_ r_) fun x21=>A8<|Ac<|Ab r_<|Aj (AW (I:=(IT.int .i64)) Ah AE) fun x22=>Ab r_<|Aa.next (x22,x21) sB)) (AD<|C1 s8.2 sB)) (fun p9=>AS<|Ag<|Ao (AJ (t:=(T.arr 4 T.u8)) (u:=(T.arr 4 T.u8)) Ah r_ r_ (An _) r_ r_) fun x23=>Ai (AQ Ah Ah r_ r_ (An _) r_) fun x24=>Ad (Ap AE)<|Ac<|Aa.ret (.cons (Bw r_ r_ r_ (An _) r_ r_)<| .one (Az r_))))
theorem RB:Spec tb GG [Ak] [(T.arr 4 T.u8),(T.int .i64)] (fun a=>L9 a):=
 Spec.of gU r_ r_ r_ XK
noncomputable def Nr(a0:AH)(a1:Bool):Option ((GS Int)×Bool):=if(decide (a0=[]))=true then some (.nil,true) else (Gh a0 (58:UInt8)).bind fun x2=>(iter (fun(s3:(Int×(GS Int)))=>if(decide (s3.1<(x2.l.length:Int)))=true then (DC x2.l s3.1).bind fun x7=>(Iu x7).bind fun x9=>if(decide (0≤x9))=true then (Ng 8 s3.2 [x9]).bind fun x12=>some (.inl (IntKind.i64.wrap (s3.1+1),x12)) else (DC x2.l s3.1).bind fun x14=>(L9 x14).bind fun x16=>(JJ (!decide (x16.2=0)) (some (!a1))).bind fun x23=>(JJ x23 (let x26:=decide (s3.1<IntKind.i64.wrap ((x2.l.length:Int)-1));some x26)).bind fun x27=>if x27=true then (some (.nil,false)).map fun r=> .inr (.inr r) else (C2 4 0).bind fun x28=>(x16.1.l[x28]?).bind fun x29=>let x31:=IntKind.i64.wrap (256*IntKind.i64.wrap (x29.toNat:Int));(C2 4 1).bind fun x32=>(x16.1.l[x32]?).bind fun x33=>let x35:=IntKind.i64.wrap (x31+IntKind.i64.wrap (x33.toNat:Int));(C2 4 2).bind fun x36=>(x16.1.l[x36]?).bind fun x37=>let x39:=IntKind.i64.wrap (256*IntKind.i64.wrap (x37.toNat:Int));(C2 4 3).bind fun x40=>(x16.1.l[x40]?).bind fun x41=>let x43:=IntKind.i64.wrap (x39+IntKind.i64.wrap (x41.toNat:Int));(Ng 8 s3.2 [x35,x43]).bind fun x45=>some (.inl (IntKind.i64.wrap (s3.1+1),x45)) else some (.inr (.inl s3.2))) (0, .nil)).bind (Sum.elim (fun(p4:(GS Int))=>some (p4,true)) some)
noncomputable def ZP(a:CG [Ak,T.b]):Cw tb Oy [Ak,T.b] [(T.sl (T.int .i64)),T.b] a:=Af<|Ad (Ap (Ep (t:=(T.int .i64))))<|Aa.turn (OW (n:=4) (j:=1004) r_ r_)<|Ad (Ap DF)<|Ag<|Af<|Ab r_<|Aj (Hr Ah D1) fun x1=>Ac<|Aa.cond Ah (Af<|Ad (Ap (Ep (t:=(T.int .i64))))<|Aa.turn (OW (n:=4) (j:=2004) r_ r_)<|Ad (Ap DF)<|Ac<|Aa.frzRow 2004 r_ r_<|Aa.ret (.cons (Az r_)<| .one (Az r_))) (Aa.skip<|Ag<|Ad (Ap (Ep (t:=(T.int .i64))))<|Aa.turn (OW (n:=6) (j:=2004) r_ r_)<|Ag<|Ab r_<|Aa.op (AN (ND (As:=[Ak,T.u8]) ⟨CA,CA,trivial⟩ HU) (.cons Ah<| .one (JY 58 r_))) fun x2=>Ab r_<|Ag<|Af<|Ad (Ap AE)<|Ac<|Ax<|Aa.loop (id:=0) (σ:=(Int×(GS Int))) (τ:=(GS Int)) (fun s3=>⟨[(1, .val T.b a.2),(6, .own 2004),(7, .val (Ml (T.sl Ak)) x2),(8, .val (T.int .i64) s3.1)],[(2004, .row (T.int .i64) s3.2)]⟩) (fun p4=>⟨[(6, .own 2004)],[(2004, .row (T.int .i64) p4)]⟩) (0, .nil) sB (fun _=>r_) (fun s3=>Af<|Af<|Ab r_<|Ab r_<|Aj (Dv (Dp Ah)) fun x5=>Aj (Av r_ Ah Ah) fun x6=>Ac<|Aa.cond Ah (Aa.skip<|Ag<|Ax<|Af<|Ab r_<|Ab r_<|Aa.op (Fb r_ (Dp Ah) Ah) fun x7=>Ao (HY r_ r_ Ah) fun x8=>Aa.op (AN SQ (.one Ah)) fun x9=>Ab r_<|Ag<|Af<|Ab r_<|Aj (Av r_ Ah AE) fun x10=>Ac<|Aa.cond Ah (Af<|Ab r_<|Ab r_<|Aj (Iz (t:=(T.int .i64)) (n:=1) r_ r_ (.cons r_ Ah<| .nil _)) fun x11=>BJ (I3 r_ Ah r_ (MM Ah)) fun x12=>Ab r_<|Ac<|AD<|AS<|Ac<|Ab r_<|Aj (AW (I:=(IT.int .i64)) Ah AE) fun x13=>Ab r_<|Aa.next (x13,x12) sB) (Aa.skip<|Ag<|Ab r_<|Ab r_<|Aa.op (Fb r_ (Dp Ah) Ah) fun x14=>Ao (HY r_ r_ Ah) fun x15=>Aa.op (Bn RB (.one Ah)) fun x16=>Ab r_<|Ao (AY Ah r_) fun x17=>
 Ao (AY Ah r_) fun x18=>Ai (B7 (t:=(T.arr 4 T.u8)) 10 r_ r_) fun x19=>Ai (AQ Ah Ah r_ r_ (An _) r_) fun x20=>Ab r_<|Ag<|Af<|Ab r_<|Aj (Av r_ Ah AE) fun x21=>Ab r_<|Aa.or 2 r_ r_ r_ (AF (Ap (Cs r_))<|AX (Fz Ah) fun x22=>Be.nil Ah) fun x23=>Ab r_<|Aa.or 5 r_ r_ r_ (AF (Ap (Cs r_))<|AF (Ap (Cs r_))<|AX (Dv (Dp Ah)) fun x24=>AX (EQ (I:=(IT.int .i64)) Ah AE) fun x25=>AX (Av r_ Ah Ah) fun x26=>Be.nil Ah) fun x27=>Ac<|Aa.cond Ah (Af<|Ad (Ap (Ep (t:=(T.int .i64))))<|Aa.turn (OW (n:=4) (j:=1004) r_ r_)<|Ad (Ap DF)<|Ac<|BB<|Aa.frzRow 1004 r_ r_<|Aa.ret (.cons (Az r_)<| .one (Az r_))) (Aa.skip<|Ac<|Ab r_<|Aa.op (DD Ah AE) fun x28=>Aa.op (My (An _) r_ r_ Ah r_ r_) fun x29=>Aj (Eu (I:=IT.u8) (J:=(IT.int .i64)) r_ Ah) fun x30=>Aj (GW (I:=(IT.int .i64)) AE Ah) fun x31=>Aa.op (DD Ah AE) fun x32=>Aa.op (My (An _) r_ r_ Ah r_ r_) fun x33=>Aj (Eu (I:=IT.u8) (J:=(IT.int .i64)) r_ Ah) fun x34=>Aj (AW (I:=(IT.int .i64)) Ah Ah) fun x35=>Aa.op (DD Ah AE) fun x36=>Aa.op (My (An _) r_ r_ Ah r_ r_) fun x37=>Aj (Eu (I:=IT.u8) (J:=(IT.int .i64)) r_ Ah) fun x38=>Aj (GW (I:=(IT.int .i64)) AE Ah) fun x39=>Aa.op (DD Ah AE) fun x40=>Aa.op (My (An _) r_ r_ Ah r_ r_) fun x41=>Aj (Eu (I:=IT.u8) (J:=(IT.int .i64)) r_ Ah) fun x42=>Aj (AW (I:=(IT.int .i64)) Ah Ah) fun x43=>Aj (Iz (t:=(T.int .i64)) (n:=2) r_ r_ (.cons r_ Ah<| .cons r_ Ah<| .nil _)) fun x44=>BJ (I3 r_ Ah r_ (MM Ah)) fun x45=>Ab r_<|A8<|Ac<|Ab r_<|Aj (AW (I:=(IT.int .i64)) Ah AE) fun x46=>Ab r_<|Aa.next (x46,x45) sB))) (AD<|C1 s3.2 sB)) (fun p4=>AS<|Ag<|Ab r_<|
 Ab r_<|Ad (Ap DF)<|Ac<|Aa.frzRow 2004 r_ r_<|Aa.ret (.cons (Az r_)<| .one (Az r_))))
theorem Pg:Spec tb G1 [Ak,T.b] [(T.sl (T.int .i64)),T.b] (fun a=>Nr a.1 a.2):=
 Spec.of lU r_ r_ r_ ZP
noncomputable def PV(a0:AH):Option ((Ar UInt8 16)×Bool):=(Vk a0).bind fun x3=>if(decide (x3<0))=true then (Nr a0 true).bind fun x5=>(JJ (!x5.2) (some (!decide ((x5.1.l.length:Int)=8)))).bind fun x11=>if x11=true then some (((T.arr 16 T.u8).z),false) else (iter (fun(s14:(Int×(Ar UInt8 16)))=>if(decide (s14.1<8))=true then (DC x5.1.l s14.1).bind fun x18=>(if 256=0 then none else some (IntKind.i64.wrap (Int.tdiv x18 256))).bind fun x20=>(C2 16 (IntKind.i64.wrap (2*s14.1))).bind fun x22=>(if x22<16 then some (s14.2.set x22 (HF x20))else none).bind fun x23=>let x25:=IntKind.i64.wrap (IntKind.i64.wrap (2*s14.1)+1);(DC x5.1.l s14.1).bind fun x26=>(if 256=0 then none else some (Int.tmod x26 256)).bind fun x28=>(C2 16 x25).bind fun x30=>(if x30<16 then some (x23.set x30 (HF x28))else none).bind fun x31=>some (.inl (IntKind.i64.wrap (s14.1+1),x31)) else some (.inr (.inl s14.2))) (0,(T.arr 16 T.u8).z)).bind (Sum.elim (fun(p15:(Ar UInt8 16))=>some (p15,true)) some) else (H8 a0 none (some x3)).bind fun x35=>(Nr x35 false).bind fun x36=>(H8 a0 (some (IntKind.i64.wrap (x3+2))) none).bind fun x40=>(Nr x40 true).bind fun x41=>(JJ (!x36.2) (some (!x41.2))).bind fun x46=>(JJ x46 (let x49:=IntKind.i64.wrap ((x36.1.l.length:Int)+(x41.1.l.length:Int));some (decide (7<x49)))).bind fun x51=>if x51=true then some (((T.arr 16 T.u8).z),false) else (iter (fun(s54:(Int×(GS Int)))=>if(decide (s54.1<(x36.1.l.length:Int)))=true then (DC x36.1.l s54.1).bind fun x58=>(Ng 8 s54.2 [x58]).bind fun x61=>some (.inl (IntKind.i64.wrap (s54.1+1),x61))
 else some (.inr (.inl s54.2))) (0, .nil)).bind (Sum.elim (fun(p55:(GS Int))=>(iter (fun(s63:(GS Int))=>let x67:=IntKind.i64.wrap ((s63.l.length:Int)+(x41.1.l.length:Int));if(decide (x67<8))=true then (Ng 8 s63 [0]).bind fun x70=>some (.inl x70) else some (.inr (.inl s63))) p55).bind (Sum.elim (fun(p64:(GS Int))=>(Ng 8 p64 x41.1.l).bind fun x71=>(iter (fun(s72:(Int×(Ar UInt8 16)))=>if(decide (s72.1<8))=true then (C2 x71.l.length s72.1).bind fun x76=>(x71.l[x76]?.map fun x=>x).bind fun x77=>(if 256=0 then none else some (IntKind.i64.wrap (Int.tdiv x77 256))).bind fun x78=>(C2 16 (IntKind.i64.wrap (2*s72.1))).bind fun x80=>(if x80<16 then some (s72.2.set x80 (HF x78))else none).bind fun x81=>let x83:=IntKind.i64.wrap (IntKind.i64.wrap (2*s72.1)+1);(C2 x71.l.length s72.1).bind fun x84=>(x71.l[x84]?.map fun x=>x).bind fun x85=>(if 256=0 then none else some (Int.tmod x85 256)).bind fun x86=>(C2 16 x83).bind fun x88=>(if x88<16 then some (x81.set x88 (HF x86))else none).bind fun x89=>some (.inl (IntKind.i64.wrap (s72.1+1),x89)) else some (.inr (.inl s72.2))) (0,(T.arr 16 T.u8).z)).bind (Sum.elim (fun(p73:(Ar UInt8 16))=>some (p73,true)) some)) some)) some)
noncomputable def XJ(a:CG [Ak]):Cw tb M8 [Ak] [(T.arr 16 T.u8),T.b] a:=Af<|Ai (B7 (t:=(T.arr 16 T.u8)) 2 r_ r_) fun x1=>Ad (Ap DF)<|Ag<|Ai (B7 (t:=(T.arr 16 T.u8)) 4 r_ r_) fun x2=>Ag<|Ad (Ap (Ep (t:=(T.int .i64))))<|Aa.turn (OW (n:=5) (j:=1005) r_ r_)<|Ag<|Ab r_<|Aa.op (AN jO (.one Ah)) fun x3=>Ab r_<|Ag<|Af<|Ab r_<|Aj (Av r_ Ah AE) fun x4=>Ac<|Aa.cond Ah (Af<|Ab r_<|Aa.op (Bn Pg (.cons Ah<| .one DF)) fun x5=>Ab r_<|Ao (AY Ah r_) fun x6=>Ao (AY Ah r_) fun x7=>Ab r_<|Ab r_<|Ag<|Af<|Ab r_<|Aj (Fz Ah) fun x8=>Ab r_<|Aa.or 3 r_ r_ r_ (AF (Ap (Cs r_))<|AX (Dv Ah) fun x9=>AX (Av r_ Ah AE) fun x10=>Be.nil Ah) fun x11=>Ac<|Aa.cond Ah (Af<|Ao (AJ (t:=(T.arr 16 T.u8)) (u:=(T.arr 16 T.u8)) Ah r_ r_ (An _) r_ r_) fun x12=>Ai (AQ Ah Ah r_ r_ (An _) r_) fun x13=>Ad (Ap DF)<|Ac<|Aa.ret (.cons (Bw r_ r_ r_ (An _) r_ r_)<| .one (Az r_))) (Aa.skip<|Ac<|Ab r_<|Ab r_<|Ag<|Af<|Ad (Ap AE)<|Ac<|Ax<|Aa.loop (id:=4) (σ:=(Int×(Ar UInt8 16))) (τ:=(Ar UInt8 16)) (fun s14=>⟨[(2, .cp 2 0),(4, .cp 4 0),(5, .val (T.sl (T.int .i64)) x6),(14, .val (T.int .i64) s14.1)],[(2, .cells [(16, .val (T.arr 16 T.u8) x1)]),(4, .cells [(16, .val (T.arr 16 T.u8) s14.2)])]⟩) (fun p15=>⟨[(2, .cp 2 0),(4, .cp 4 0)],[(2, .cells [(16, .val (T.arr 16 T.u8) x1)]),(4, .cells [(16, .val (T.arr 16 T.u8) p15)])]⟩) (0,x2) sB (fun _=>r_) (fun s14=>Af<|Af<|Ab r_<|Aj (Av r_ Ah AE) fun x16=>Ac<|Aa.cond Ah (Aa.skip<|Ag<|Ax<|Af<|Ab r_<|Aj (GW (I:=(IT.int .i64)) AE Ah) fun x17=>Ab r_<|Ab r_<|Aa.op (Fb r_ Ah Ah) fun x18=>Ao (HY r_ r_ Ah) fun x19=>
 Aa.op (P6 (I:=(IT.int .i64)) Ah AE) fun x20=>Aj (Eu (I:=(IT.int .i64)) (J:=IT.u8) r_ Ah) fun x21=>Aa.op (DD Ah Ah) fun x22=>BJ (Ff (s:=(T.arr 16 T.u8)) (An _) r_ Ah Ah r_ r_) fun x23=>Ac<|Ab r_<|Aj (GW (I:=(IT.int .i64)) AE Ah) fun x24=>Aj (AW (I:=(IT.int .i64)) Ah AE) fun x25=>Ab r_<|Ab r_<|Aa.op (Fb r_ Ah Ah) fun x26=>Ao (HY r_ r_ Ah) fun x27=>Aa.op (oG Ah AE) fun x28=>Aj (Eu (I:=(IT.int .i64)) (J:=IT.u8) r_ Ah) fun x29=>Aa.op (DD Ah Ah) fun x30=>BJ (Ff (s:=(T.arr 16 T.u8)) (An _) r_ Ah Ah r_ r_) fun x31=>A8<|Ac<|Ab r_<|Aj (AW (I:=(IT.int .i64)) Ah AE) fun x32=>Ab r_<|Aa.next (x32,x31) sB) (AD<|C1 s14.2 sB)) (fun p15=>AS<|Ag<|Ao (AJ (t:=(T.arr 16 T.u8)) (u:=(T.arr 16 T.u8)) Ah r_ r_ (An _) r_ r_) fun x33=>Ai (AQ Ah Ah r_ r_ (An _) r_) fun x34=>Ad (Ap DF)<|Ac<|Aa.ret (.cons (Bw r_ r_ r_ (An _) r_ r_)<| .one (Az r_))))) (Af<|Ab r_<|Ab r_<|Aa.op (Js Ah .none (.some Ah)) fun x35=>Aa.op (Bn Pg (.cons Ah<| .one DF)) fun x36=>Ab r_<|Ao (AY Ah r_) fun x37=>Ao (AY Ah r_) fun x38=>Ab r_<|Ab r_<|Ag<|Ab r_<|Ab r_<|Aj (AW (I:=(IT.int .i64)) Ah AE) fun x39=>Aa.op (Js Ah (.some Ah) .none) fun x40=>Aa.op (Bn Pg (.cons Ah<| .one DF)) fun x41=>Ab r_<|Ao (AY Ah r_) fun x42=>Ao (AY Ah r_) fun x43=>Ab r_<|Ab r_<|Ag<|Af<|Ab r_<|Aj (Fz Ah) fun x44=>Ab r_<|Aa.or 2 r_ r_ r_ (AF (Ap (Cs r_))<|AX (Fz Ah) fun x45=>Be.nil Ah) fun x46=>Ab r_<|Aa.or 6 r_ r_ r_ (AF (Ap (Cs r_))<|AX (Dv Ah) fun x47=>AF (Ap (Cs r_))<|AX (Dv Ah) fun x48=>AX (AW (I:=(IT.int .i64)) Ah Ah) fun x49=>AX (Av r_ Ah AE) fun x50=>Be.nil Ah) fun x51=>
 Ac<|Aa.cond Ah (Af<|Ao (AJ (t:=(T.arr 16 T.u8)) (u:=(T.arr 16 T.u8)) Ah r_ r_ (An _) r_ r_) fun x52=>Ai (AQ Ah Ah r_ r_ (An _) r_) fun x53=>Ad (Ap DF)<|Ac<|Aa.ret (.cons (Bw r_ r_ r_ (An _) r_ r_)<| .one (Az r_))) (Aa.skip<|Ag<|Af<|Ad (Ap AE)<|Ac<|Ax<|Aa.loop (id:=0) (σ:=(Int×(GS Int))) (τ:=(GS Int)) (fun s54=>⟨[(2, .cp 2 0),(4, .cp 4 0),(5, .own 1005),(9, .val (T.sl (T.int .i64)) x37),(11, .val (T.sl (T.int .i64)) x42),(13, .val (T.int .i64) s54.1)],[(2, .cells [(16, .val (T.arr 16 T.u8) x1)]),(4, .cells [(16, .val (T.arr 16 T.u8) x2)]),(1005, .row (T.int .i64) s54.2)]⟩) (fun p55=>⟨[(2, .cp 2 0),(4, .cp 4 0),(5, .own 1005),(11, .val (T.sl (T.int .i64)) x42)],[(2, .cells [(16, .val (T.arr 16 T.u8) x1)]),(4, .cells [(16, .val (T.arr 16 T.u8) x2)]),(1005, .row (T.int .i64) p55)]⟩) (0, .nil) sB (fun _=>r_) (fun s54=>Af<|Af<|Ab r_<|Ab r_<|Aj (Dv Ah) fun x56=>Aj (Av r_ Ah Ah) fun x57=>Ac<|Aa.cond Ah (Aa.skip<|Ag<|Ax<|Ab r_<|Ab r_<|Ab r_<|Aa.op (Fb r_ Ah Ah) fun x58=>Ao (HY r_ r_ Ah) fun x59=>Aj (Iz (t:=(T.int .i64)) (n:=1) r_ r_ (.cons r_ Ah<| .nil _)) fun x60=>BJ (I3 r_ Ah r_ (MM Ah)) fun x61=>Ab r_<|A8<|Ac<|Ab r_<|Aj (AW (I:=(IT.int .i64)) Ah AE) fun x62=>Ab r_<|Aa.next (x62,x61) sB) (AD<|C1 s54.2 sB)) (fun p55=>AS<|Ag<|Ax<|Aa.loop (id:=2) (σ:=(GS Int)) (τ:=(GS Int)) (fun s63=>⟨[(2, .cp 2 0),(4, .cp 4 0),(5, .own 1005),(11, .val (T.sl (T.int .i64)) x42)],[(2, .cells [(16, .val (T.arr 16 T.u8) x1)]),(4, .cells [(16, .val (T.arr 16 T.u8) x2)]),(1005, .row (T.int .i64) s63)]⟩) (fun p64=>⟨[(2, .cp 2 0),(4, .cp 4 0),(5, .own 1005),(11, .val (T.sl (T.int .i64)) x42)],[(2, .cells [(16, .val (T.arr 16 T.u8) x1)]),(4, .cells [(16, .val (T.arr 16 T.u8) x2)]),(1005, .row (T.int .i64) p64)]⟩) p55 sB (fun _=>r_) (fun s63=>
 Af<|Af<|Ab r_<|Aj (h_lenO Ah r_) fun x65=>Ab r_<|Aj (Dv Ah) fun x66=>Aj (AW (I:=(IT.int .i64)) Ah Ah) fun x67=>Aj (Av r_ Ah AE) fun x68=>Ac<|Aa.cond Ah (Aa.skip<|Ac<|Ax<|Ab r_<|Aj (Iz (t:=(T.int .i64)) (n:=1) r_ r_ (.cons r_ AE<| .nil _)) fun x69=>BJ (I3 r_ Ah r_ (MM Ah)) fun x70=>Ab r_<|A8<|Aa.next x70 sB) (AD<|C1 s63 sB)) (fun p64=>AS<|Ac<|Ab r_<|Ab r_<|BJ (I3 r_ Ah r_ (MM Ah)) fun x71=>Ab r_<|Ag<|Af<|Ad (Ap AE)<|Ac<|Ax<|Aa.loop (id:=4) (σ:=(Int×(Ar UInt8 16))) (τ:=(Ar UInt8 16)) (fun s72=>⟨[(2, .cp 2 0),(4, .cp 4 0),(5, .own 1005),(14, .val (T.int .i64) s72.1)],[(2, .cells [(16, .val (T.arr 16 T.u8) x1)]),(4, .cells [(16, .val (T.arr 16 T.u8) s72.2)]),(1005, .row (T.int .i64) x71)]⟩) (fun p73=>⟨[(2, .cp 2 0),(4, .cp 4 0)],[(2, .cells [(16, .val (T.arr 16 T.u8) x1)]),(4, .cells [(16, .val (T.arr 16 T.u8) p73)])]⟩) (0,x2) sB (fun _=>r_) (fun s72=>Af<|Af<|Ab r_<|Aj (Av r_ Ah AE) fun x74=>Ac<|Aa.cond Ah (Aa.skip<|Ag<|Ax<|Af<|Ab r_<|Aj (GW (I:=(IT.int .i64)) AE Ah) fun x75=>Ab r_<|Ab r_<|Aa.op (Ty r_ Ah r_ Ah) fun x76=>Aa.op (Zf (t:=(T.int .i64)) (u:=(T.int .i64)) r_ r_ (An _) Ah r_) fun x77=>Aa.op (P6 (I:=(IT.int .i64)) Ah AE) fun x78=>Aj (Eu (I:=(IT.int .i64)) (J:=IT.u8) r_ Ah) fun x79=>Aa.op (DD Ah Ah) fun x80=>BJ (Ff (s:=(T.arr 16 T.u8)) (An _) r_ Ah Ah r_ r_) fun x81=>Ac<|Ab r_<|Aj (GW (I:=(IT.int .i64)) AE Ah) fun x82=>Aj (AW (I:=(IT.int .i64)) Ah AE) fun x83=>Ab r_<|Ab r_<|Aa.op (Ty r_ Ah r_ Ah) fun x84=>Aa.op (Zf (t:=(T.int .i64)) (u:=(T.int .i64)) r_ r_ (An _) Ah r_) fun x85=>
 Aa.op (oG Ah AE) fun x86=>Aj (Eu (I:=(IT.int .i64)) (J:=IT.u8) r_ Ah) fun x87=>Aa.op (DD Ah Ah) fun x88=>BJ (Ff (s:=(T.arr 16 T.u8)) (An _) r_ Ah Ah r_ r_) fun x89=>A8<|Ac<|Ab r_<|Aj (AW (I:=(IT.int .i64)) Ah AE) fun x90=>Ab r_<|Aa.next (x90,x89) sB) (AD<|C1 s72.2 sB)) (fun p73=>AS<|Ag<|Ao (AJ (t:=(T.arr 16 T.u8)) (u:=(T.arr 16 T.u8)) Ah r_ r_ (An _) r_ r_) fun x91=>Ai (AQ Ah Ah r_ r_ (An _) r_) fun x92=>Ad (Ap DF)<|Ac<|Aa.ret (.cons (Bw r_ r_ r_ (An _) r_ r_)<| .one (Az r_)))))))
theorem ZK:Spec tb Ie [Ak] [(T.arr 16 T.u8),T.b] (fun a=>PV a):=
 Spec.of gQ r_ r_ r_ XJ
noncomputable def ZX(a0:(GS UInt8)):Option (Bf×Bool):=(Cg (!decide ((a0.l.length:Int)=4)) (some (!decide ((a0.l.length:Int)=16)))).bind fun x7=>if x7=true then some (Aw.z,false) else (if(decide ((a0.l.length:Int)=16))=true then some (.inl ({{Aw.z with V:=4}with V:=6})) else some (.inl ({Aw.z with V:=4})):Option (Bf⊕_)).bind (Sum.elim (fun(p13:Bf)=>(iter (fun(s15:(Int×Bf))=>if(decide (s15.1<(a0.l.length:Int)))=true then (DC a0.l s15.1).bind fun x19=>(C2 16 s15.1).bind fun x21=>(if x21<16 then some ({s15.2 with B:=s15.2.B.set x21 x19})else none).bind fun x22=>some (.inl (IntKind.i64.wrap (s15.1+1),x22)) else some (.inr (.inl s15.2))) (0,p13)).bind (Sum.elim (fun(p16:Bf)=>some (p16,true)) some)) some)
noncomputable def jS(a:CG [(T.sl T.u8)]):Cw tb S5 [(T.sl T.u8)] [Aw,T.b] a:=Af<|Ai (B7 (t:=Aw) 2 r_ r_) fun x1=>Ad (Ap DF)<|Ag<|Ai (B7 (t:=Aw) 4 r_ r_) fun x2=>Ag<|Af<|Ab r_<|Aj (Dv Ah) fun x3=>Aj (Av r_ Ah AE) fun x4=>Ab r_<|Aa.and 3 r_ r_ r_ (AF (Ap (Cs r_))<|AX (Dv Ah) fun x5=>AX (Av r_ Ah AE) fun x6=>Be.nil Ah) fun x7=>Ac<|Aa.cond Ah (Af<|Ao (AJ (t:=Aw) (u:=Aw) Ah r_ r_ (An _) r_ r_) fun x8=>Ai (AQ Ah Ah r_ r_ (An _) r_) fun x9=>Ad (Ap DF)<|Ac<|Aa.ret (.cons (Bw r_ r_ r_ (An _) r_ r_)<| .one (Az r_))) (Aa.skip<|Ag<|Ad (AB Ah)<|Ai (AQ Ah AE r_ r_ Fa r_) fun x10=>Ag<|Af<|Ab r_<|Aj (Dv Ah) fun x11=>Aj (Av r_ Ah AE) fun x12=>Ac<|Hp (τ:=Bf) (fun p13=>⟨[(0, .val (T.sl T.u8) a),(2, .cp 2 0),(4, .cp 4 0)],[(2, .cells [(17, .val Aw x1)]),(4, .cells [(17, .val Aw p13)])]⟩) (fun p13=>Ag<|Af<|Ad (Ap AE)<|Ac<|Ax<|Aa.loop (id:=0) (σ:=(Int×Bf)) (τ:=Bf) (fun s15=>⟨[(0, .val (T.sl T.u8) a),(2, .cp 2 0),(4, .cp 4 0),(5, .val (T.int .i64) s15.1)],[(2, .cells [(17, .val Aw x1)]),(4, .cells [(17, .val Aw s15.2)])]⟩) (fun p16=>⟨[(2, .cp 2 0),(4, .cp 4 0)],[(2, .cells [(17, .val Aw x1)]),(4, .cells [(17, .val Aw p16)])]⟩) (0,p13) sB (fun _=>r_) (fun s15=>Af<|Af<|Ab r_<|Ab r_<|Aj (Dv Ah) fun x17=>Aj (Av r_ Ah Ah) fun x18=>Ac<|Aa.cond Ah (Aa.skip<|Ag<|Ax<|Ab r_<|Ab r_<|Ab r_<|Aa.op (Fb r_ Ah Ah) fun x19=>Ao (HY r_ r_ Ah) fun x20=>Ad (AB Ah)<|Aa.op (DD Ah Ah) fun x21=>BJ (Ff (s:=Aw) GR r_ Ah Ah r_ r_) fun x22=>A8<|Ac<|Ab r_<|Aj (AW (I:=(IT.int .i64)) Ah AE) fun x23=>Ab r_<|Aa.next (x23,x22) sB) (AD<|C1 s15.2 sB)) (fun p16=>
 AS<|Ag<|Ao (AJ (t:=Aw) (u:=Aw) Ah r_ r_ (An _) r_ r_) fun x24=>Ai (AQ Ah Ah r_ r_ (An _) r_) fun x25=>Ad (Ap DF)<|Ac<|Aa.ret (.cons (Bw r_ r_ r_ (An _) r_ r_)<| .one (Az r_))))<|Aa.cond Ah (Ad (AB Ah)<|Ai (AQ Ah AE r_ r_ Fa r_) fun x26=>Gb x26 sB) (Aa.skip<|Gb x10 sB))
theorem pM:Spec tb LG [(T.sl T.u8)] [Aw,T.b] (fun a=>ZX a):=
 Spec.of wO r_ r_ r_ jS
noncomputable def Nq(a0:AH):Option (Bf×Int):=(Gh a0 (58:UInt8)).bind fun x2=>if(decide (1<(x2.l.length:Int)))=true then (PV a0).bind fun x5=>if(!x5.2)=true then some ((⟨0,(T.arr 16 T.u8).z⟩:Bf),5) else some ((⟨6,x5.1⟩:Bf),0) else (L9 a0).bind fun x16=>if(!decide (x16.2=0))=true then some ((⟨0,(T.arr 16 T.u8).z⟩:Bf),x16.2) else (C2 4 0).bind fun x24=>(x16.1.l[x24]?).bind fun x25=>(C2 4 1).bind fun x26=>(x16.1.l[x26]?).bind fun x27=>(C2 4 2).bind fun x28=>(x16.1.l[x28]?).bind fun x29=>(C2 4 3).bind fun x30=>(x16.1.l[x30]?).bind fun x31=>(ZX (GS.mk [x25,x27,x29,x31])).bind fun x33=>some (x33.1,0)
noncomputable def XI(a:CG [Ak]):Cw tb M7 [Ak] [Aw,(T.int .i64)] a:=Af<|Ai (B7 (t:=Aw) 2 r_ r_) fun x1=>Ad (Ap AE)<|Ag<|Af<|Ab r_<|Aa.op (AN (ND (As:=[Ak,T.u8]) ⟨CA,CA,trivial⟩ HU) (.cons Ah<| .one (JY 58 r_))) fun x2=>Aj (Dv (Dp Ah)) fun x3=>Aj (Av r_ Ah AE) fun x4=>Ac<|Aa.cond Ah (Af<|Ab r_<|Aa.op (Bn ZK (.one Ah)) fun x5=>Ab r_<|Ao (AY Ah r_) fun x6=>Ao (AY Ah r_) fun x7=>Ai (B7 (t:=(T.arr 16 T.u8)) 4 r_ r_) fun x8=>Ai (AQ Ah Ah r_ r_ (An _) r_) fun x9=>Ab r_<|Ag<|Af<|Ab r_<|Aj (Fz Ah) fun x10=>Ac<|Aa.cond Ah (Af<|Aj (C3 r_ r_ (.nil _)) fun x11=>Ai (AQ Ah Ah r_ r_ (An _) r_) fun x12=>Ad (Ap AE)<|Ac<|Aa.ret (.cons (Bw r_ r_ r_ (An _) r_ r_)<| .one (Az r_))) (Aa.skip<|Ag<|Ao (AJ (t:=(T.arr 16 T.u8)) (u:=(T.arr 16 T.u8)) Ah r_ r_ (An _) r_ r_) fun x13=>Aj (C3 r_ r_ (.cons Fa r_ AE<| .cons GR r_ Ah<| .nil _)) fun x14=>Ai (AQ Ah Ah r_ r_ (An _) r_) fun x15=>Ad (Ap AE)<|Ac<|Aa.ret (.cons (Bw r_ r_ r_ (An _) r_ r_)<| .one (Az r_)))) (Aa.skip<|Ag<|Ab r_<|Aa.op (Bn RB (.one Ah)) fun x16=>Ab r_<|Ao (AY Ah r_) fun x17=>Ao (AY Ah r_) fun x18=>Ai (B7 (t:=(T.arr 4 T.u8)) 6 r_ r_) fun x19=>Ai (AQ Ah Ah r_ r_ (An _) r_) fun x20=>Ab r_<|Ag<|Af<|Ab r_<|Aj (Av r_ Ah AE) fun x21=>Ac<|Aa.cond Ah (Af<|Aj (C3 r_ r_ (.nil _)) fun x22=>Ab r_<|Ai (AQ Ah Ah r_ r_ (An _) r_) fun x23=>Ab r_<|Ac<|Aa.ret (.cons (Bw r_ r_ r_ (An _) r_ r_)<| .one (Az r_))) (Aa.skip<|Ag<|Aa.op (DD Ah AE) fun x24=>Aa.op (My (An _) r_ r_ Ah r_ r_) fun x25=>Aa.op (DD Ah AE) fun x26=>Aa.op (My (An _) r_ r_ Ah r_ r_) fun x27=>Aa.op (DD Ah AE) fun x28=>
 Aa.op (My (An _) r_ r_ Ah r_ r_) fun x29=>Aa.op (DD Ah AE) fun x30=>Aa.op (My (An _) r_ r_ Ah r_ r_) fun x31=>Aj (Iz (t:=T.u8) (n:=4) r_ r_ (.cons r_ Ah<| .cons r_ Ah<| .cons r_ Ah<| .cons r_ Ah<| .nil _)) fun x32=>Aa.op (Bn pM (.one Ah)) fun x33=>Ab r_<|Ao (AY Ah r_) fun x34=>Ao (AY Ah r_) fun x35=>Ai (B7 (t:=Aw) 8 r_ r_) fun x36=>Ai (AQ Ah Ah r_ r_ (An _) r_) fun x37=>Ab r_<|Ag<|Ao (AJ (t:=Aw) (u:=Aw) Ah r_ r_ (An _) r_ r_) fun x38=>Ai (AQ Ah Ah r_ r_ (An _) r_) fun x39=>Ad (Ap AE)<|Ac<|Aa.ret (.cons (Bw r_ r_ r_ (An _) r_ r_)<| .one (Az r_))))
theorem ZJ:Spec tb Id [Ak] [Aw,(T.int .i64)] (fun a=>Nq a):=
 Spec.of gP r_ r_ r_ XI
noncomputable def Np(a0:AH):Option (AI×Int):=(Cg (decide (0<(a0.length:Int))) ((DC a0 0).bind fun x4=>let x5:=decide ((x4.toNat:Int)=((91:UInt8).toNat:Int));some x5)).bind fun x6=>(if x6=true then (H8 a0 (some 1) none).bind fun x38=>(RR x38).bind fun x39=>some (.inl (x39.1,x39.2.1,x39.2.2)) else (Gh a0 (58:UInt8)).bind fun x43=>(DC x43.l 0).bind fun x46=>if(decide (1<(x43.l.length:Int)))=true then (DC x43.l 0).bind fun x48=>(H8 a0 (some (IntKind.i64.wrap ((x48.length:Int)+1))) none).bind fun x52=>some (.inl (x46,x52,decide (1<(x43.l.length:Int)))) else some (.inl (x46,[],decide (1<(x43.l.length:Int)))):Option ((AH×AH×Bool)⊕_)).bind (Sum.elim (fun(p7:(AH×AH×Bool))=>(JJ (!p7.2.2) ((Gh p7.1 (58:UInt8)).bind fun x10=>some (!decide (decide (1<(x10.l.length:Int))=x6)))).bind fun x14=>if x14=true then some ((⟨Aw.z,0⟩:AI),5) else (Nq p7.1).bind fun x17=>if(!decide (x17.2=0))=true then some ((⟨Aw.z,0⟩:AI),x17.2) else (KD p7.2.1 (65535:UInt64)).bind fun x25=>if(!decide (x25.2=0))=true then some ((⟨Aw.z,0⟩:AI),x25.2) else let x31:=decide ((x25.1.toNat:Int)=((0:UInt64).toNat:Int));if x31=true then some ((⟨Aw.z,0⟩:AI),6) else let x36:=(⟨x17.1,IntKind.i64.wrap (x25.1.toNat:Int)⟩:AI);some (x36,0)) some)
noncomputable def XH(a:CG [Ak]):Cw tb M6 [Ak] [At,(T.int .i64)] a:=Af<|Ai (B7 (t:=At) 2 r_ r_) fun x1=>Ad (Ap AE)<|Ag<|Ad (Ap D1)<|Ag<|Ad (Ap D1)<|Ag<|Ad (Ap DF)<|Ag<|Ab r_<|Aj (Dj Ah) fun x2=>Aj (Av r_ Ah AE) fun x3=>Ab r_<|Aa.and 3 r_ r_ r_ (AF (Ap (Cs r_))<|Be.op (DT Ah AE) fun x4=>AX (E5 (I:=IT.u8) r_ Ah (JY 91 r_)) fun x5=>Be.nil Ah) fun x6=>Ab r_<|Ag<|Af<|Ab r_<|Ac<|Hp (τ:=(AH×AH×Bool)) (fun p7=>⟨[(2, .cp 2 0),(4, .val Ak p7.1),(5, .val Ak p7.2.1),(6, .val T.b p7.2.2),(7, .val T.b x6)],[(2, .cells [(18, .val At x1)])]⟩) (fun p7=>Ag<|Af<|Ab r_<|Aj (Fz Ah) fun x9=>Ab r_<|Aa.or 6 r_ r_ r_ (AF (Ap (Cs r_))<|Be.op (AN (ND (As:=[Ak,T.u8]) ⟨CA,CA,trivial⟩ HU) (.cons Ah<| .one (JY 58 r_))) fun x10=>AX (Dv (Dp Ah)) fun x11=>AX (Av r_ Ah AE) fun x12=>AF (Ap (Cs r_))<|AX (h_eqb (neg:=true) Ah Ah) fun x13=>Be.nil Ah) fun x14=>Ac<|Aa.cond Ah (Af<|Aj (C3 r_ r_ (.nil _)) fun x15=>Ai (AQ Ah Ah r_ r_ (An _) r_) fun x16=>Ad (Ap AE)<|Ac<|Aa.ret (.cons (Bw r_ r_ r_ (An _) r_ r_)<| .one (Az r_))) (Aa.skip<|Ag<|Ab r_<|Aa.op (Bn ZJ (.one Ah)) fun x17=>Ab r_<|Ao (AY Ah r_) fun x18=>Ao (AY Ah r_) fun x19=>Ai (B7 (t:=Aw) 9 r_ r_) fun x20=>Ai (AQ Ah Ah r_ r_ (An _) r_) fun x21=>Ab r_<|Ag<|Af<|Ab r_<|Aj (Av r_ Ah AE) fun x22=>Ac<|Aa.cond Ah (Af<|Aj (C3 r_ r_ (.nil _)) fun x23=>Ab r_<|Ai (AQ Ah Ah r_ r_ (An _) r_) fun x24=>Ab r_<|Ac<|Aa.ret (.cons (Bw r_ r_ r_ (An _) r_ r_)<| .one (Az r_))) (Aa.skip<|Ag<|Ab r_<|Aa.op (Bn Ph (.cons Ah<| .one (DA 65535 r_))) fun x25=>Ab r_<|Ao (AY Ah r_) fun x26=>Ao (AY Ah r_) fun x27=>
 Ab r_<|Ab r_<|Ag<|Af<|Ab r_<|Aj (Av r_ Ah AE) fun x28=>Ac<|Aa.cond Ah (Af<|Aj (C3 r_ r_ (.nil _)) fun x29=>Ab r_<|Ai (AQ Ah Ah r_ r_ (An _) r_) fun x30=>Ab r_<|Ac<|Aa.ret (.cons (Bw r_ r_ r_ (An _) r_ r_)<| .one (Az r_))) (Aa.skip<|Ag<|Af<|Ab r_<|Aj (E5 (I:=IT.u64) r_ Ah (DA 0 r_)) fun x31=>Ac<|Aa.cond Ah (Af<|Aj (C3 r_ r_ (.nil _)) fun x32=>Ai (AQ Ah Ah r_ r_ (An _) r_) fun x33=>Ad (Ap AE)<|Ac<|Aa.ret (.cons (Bw r_ r_ r_ (An _) r_ r_)<| .one (Az r_))) (Aa.skip<|Ag<|Ao (AJ (t:=Aw) (u:=Aw) Ah r_ r_ (An _) r_ r_) fun x34=>Ab r_<|Aj (Eu (I:=IT.u64) (J:=(IT.int .i64)) r_ Ah) fun x35=>Aj (C3 r_ r_ (.cons Fl r_ Ah<| .cons ES r_ Ah<| .nil _)) fun x36=>Ai (AQ Ah Ah r_ r_ (An _) r_) fun x37=>Ad (Ap AE)<|Ac<|Aa.ret (.cons (Bw r_ r_ r_ (An _) r_ r_)<| .one (Az r_)))))))<|Aa.cond Ah (Ab r_<|Aa.op (Js Ah (.some AE) .none) fun x38=>Aa.op (Bn jN (.one Ah)) fun x39=>Ab r_<|Ao (AY Ah r_) fun x40=>Ao (AY Ah r_) fun x41=>Ao (AY Ah r_) fun x42=>Ab r_<|Ab r_<|Ab r_<|Gb (x40,x41,x42) sB) (Af<|Ab r_<|Aa.op (AN (ND (As:=[Ak,T.u8]) ⟨CA,CA,trivial⟩ HU) (.cons Ah<| .one (JY 58 r_))) fun x43=>Ab r_<|Ag<|Ab r_<|Aj (Dv (Dp Ah)) fun x44=>Aj (Av r_ Ah AE) fun x45=>Ab r_<|Ag<|Ab r_<|Aa.op (Fb r_ (Dp Ah) AE) fun x46=>Ao (HY r_ r_ Ah) fun x47=>Ab r_<|Ag<|Ab r_<|Ac<|Aa.cond Ah (Ab r_<|Ab r_<|Aa.op (Fb r_ (Dp Ah) AE) fun x48=>Ao (HY r_ r_ Ah) fun x49=>Aj (Dj Ah) fun x50=>Aj (AW (I:=(IT.int .i64)) Ah AE) fun x51=>Aa.op (Js Ah (.some Ah) .none) fun x52=>Ab r_<|Gb (x47,x52,x45) sB) (Aa.skip<|Gb (x47,[],x45) sB))
theorem ZI:Spec tb Ic [Ak] [At,(T.int .i64)] (fun a=>Np a):=
 Spec.of gO r_ r_ r_ XH
noncomputable def LP(a0:Al)(a1:UInt8)(a2:AH):Option (Al×Int):=let x2:=decide ((a1.toNat:Int)=((98:UInt8).toNat:Int));if x2=true then (Nn a2).bind fun x3=>some (({a0 with Bytes:=x3.1}),x3.2) else let x9:=decide ((a1.toNat:Int)=((107:UInt8).toNat:Int));if x9=true then (Jj a2).bind fun x10=>some (({a0 with Key:=x10.1}),x10.2) else let x16:=decide ((a1.toNat:Int)=((116:UInt8).toNat:Int));if x16=true then (Np a2).bind fun x17=>some (({a0 with To:=x17.1}),x17.2) else (KD a2 (20:UInt64)).bind fun x23=>(Cg (decide (x23.2=0)) (let x27:=decide ((x23.1.toNat:Int)=((0:UInt64).toNat:Int));some x27)).bind fun x28=>(if x28=true then some (.inl 6) else some (.inl x23.2):Option (Int⊕_)).bind (Sum.elim (fun(p29:Int)=>let x32:={a0 with Why:=IntKind.i64.wrap (x23.1.toNat:Int)};some (x32,p29)) some)
noncomputable def ZN(a:CG [Ae,T.u8,Ak]):Cw tb Ow [Ae,T.u8,Ak] [Ae,(T.int .i64)] a:=Af<|Ai (H5 (t:=Ae) 3 r_ r_ Ah) fun _=>Ai (B7 (t:=Ae) 6 r_ r_) fun x1=>Ad (Ap AE)<|Ag<|Ad (Ap AE)<|Ag<|Af<|Ab r_<|Aj (E5 (I:=IT.u8) r_ Ah (JY 98 r_)) fun x2=>Ac<|Aa.cond Ah (Ab r_<|Aa.op (Bn (I2 (As:=[Ak]) ⟨CA,trivial⟩ CA ZG) (.one Ah)) fun x3=>Ab r_<|Ao (AY Ah r_) fun x4=>Ao (AY Ah r_) fun x5=>Ad (AB Ah)<|Ai (AQ Ah Ah r_ r_ Bv r_) fun x6=>Ab r_<|Ag<|Ao (AJ (t:=Ae) (u:=Ae) Ah r_ r_ (An _) r_ r_) fun x7=>Ab r_<|Ai (AQ Ah Ah r_ r_ (An _) r_) fun x8=>Ab r_<|Ac<|Aa.ret (.cons (Bw r_ r_ r_ (An _) r_ r_)<| .one (Az r_))) (Af<|Ab r_<|Aj (E5 (I:=IT.u8) r_ Ah (JY 107 r_)) fun x9=>Ac<|Aa.cond Ah (Ab r_<|Aa.op (Bn U4 (.one Ah)) fun x10=>Ab r_<|Ao (AY Ah r_) fun x11=>Ao (AY Ah r_) fun x12=>Ad (AB Ah)<|Ai (AQ Ah Ah r_ r_ Dq r_) fun x13=>Ab r_<|Ag<|Ao (AJ (t:=Ae) (u:=Ae) Ah r_ r_ (An _) r_ r_) fun x14=>Ab r_<|Ai (AQ Ah Ah r_ r_ (An _) r_) fun x15=>Ab r_<|Ac<|Aa.ret (.cons (Bw r_ r_ r_ (An _) r_ r_)<| .one (Az r_))) (Af<|Ab r_<|Aj (E5 (I:=IT.u8) r_ Ah (JY 116 r_)) fun x16=>Ac<|Aa.cond Ah (Ab r_<|Aa.op (Bn ZI (.one Ah)) fun x17=>Ab r_<|Ao (AY Ah r_) fun x18=>Ao (AY Ah r_) fun x19=>Ad (AB Ah)<|Ai (AQ Ah Ah r_ r_ CP r_) fun x20=>Ab r_<|Ag<|Ao (AJ (t:=Ae) (u:=Ae) Ah r_ r_ (An _) r_ r_) fun x21=>Ab r_<|Ai (AQ Ah Ah r_ r_ (An _) r_) fun x22=>Ab r_<|Ac<|Aa.ret (.cons (Bw r_ r_ r_ (An _) r_ r_)<| .one (Az r_))) (Af<|Ab r_<|Aa.op (Bn Ph (.cons Ah<| .one (DA 20 r_))) fun x23=>Ab r_<|Ao (AY Ah r_) fun x24=>Ao (AY Ah r_) fun x25=>
 Ab r_<|Ab r_<|Ag<|Ab r_<|Ab r_<|Ag<|Af<|Ab r_<|Aj (Av r_ Ah AE) fun x26=>Ab r_<|Aa.and 2 r_ r_ r_ (AF (Ap (Cs r_))<|AX (E5 (I:=IT.u64) r_ Ah (DA 0 r_)) fun x27=>Be.nil Ah) fun x28=>Ac<|Hp (τ:=Int) (fun p29=>⟨[(3, .cp 3 0),(6, .cp 6 0),(8, .val (T.int .i64) p29),(9, .val T.u64 x24)],[(3, .cells [(53, .val Ae a.1)]),(6, .cells [(53, .val Ae x1)])]⟩) (fun p29=>Ac<|Ab r_<|Aj (Eu (I:=IT.u64) (J:=(IT.int .i64)) r_ Ah) fun x31=>Ad (AB Ah)<|Ai (AQ Ah Ah r_ r_ CO r_) fun x32=>Ag<|Ao (AJ (t:=Ae) (u:=Ae) Ah r_ r_ (An _) r_ r_) fun x33=>Ab r_<|Ai (AQ Ah Ah r_ r_ (An _) r_) fun x34=>Ab r_<|Ac<|Aa.ret (.cons (Bw r_ r_ r_ (An _) r_ r_)<| .one (Az r_)))<|Aa.cond Ah (Ad (Ap AE)<|Gb 6 sB) (Aa.skip<|Gb x25 sB))))
theorem TQ:Spec tb IW [Ae,T.u8,Ak] [Ae,(T.int .i64)] (fun a=>LP a.1 a.2.1 a.2.2):=
 Spec.of lS r_ r_ r_ ZN
noncomputable def No(a0:AH):Option (Al×Int):=(Gh a0 (32:UInt8)).bind fun x2=>(iter (fun(s6:(Int×Al))=>if(decide (s6.1≤6))=true then (C2 ([[],[114,101,112,108,121],[115,101,110,100],[100,101,108,105,118,101,114],[114,101,102,117,115,101],[100,114,111,112],[112,97,115,115]]:List AH).length s6.1).bind fun x9=>(([[],[114,101,112,108,121],[115,101,110,100],[100,101,108,105,118,101,114],[114,101,102,117,115,101],[100,114,111,112],[112,97,115,115]]:List AH)[x9]?.map fun x=>x).bind fun x10=>(DC x2.l 0).bind fun x11=>if(decide (x10=x11))=true then some (.inl (IntKind.i64.wrap (s6.1+1),{s6.2 with Kind:=s6.1})) else some (.inl (IntKind.i64.wrap (s6.1+1),s6.2)) else some (.inr (.inl s6.2))) (1,Ae.z)).bind (Sum.elim (fun(p7:Al)=>if(decide (p7.Kind=0))=true then some (p7,12) else (C2 ([[],[98],[116,107,98],[107,98],[98],[119],[116,98]]:List AH).length p7.Kind).bind fun x23=>(([[],[98],[116,107,98],[107,98],[98],[119],[116,98]]:List AH)[x23]?.map fun x=>x).bind fun x24=>let x27:= !decide ((x2.l.length:Int)=IntKind.i64.wrap ((x24.length:Int)+1));if x27=true then let x28:=(⟨0, .nil,At.z,(T.arr 32 T.u8).z,0⟩:Al);some (x28,5) else (iter (fun(s30:(Int×Al))=>if(decide (s30.1<(x2.l.length:Int)))=true then Pr (C2 ([[],[98],[116,107,98],[107,98],[98],[119],[116,98]]:List AH).length s30.2.Kind) fun x34 _=>Pr (([[],[98],[116,107,98],[107,98],[98],[119],[116,98]]:List AH)[x34]?.map fun x=>x) fun x35 _=>(DC x35 (IntKind.i64.wrap (s30.1-1))).bind fun x37=>Pr (DC x2.l s30.1) fun x38 _=>Pr (LP s30.2 x37 x38) fun x40 _=>
 if(!decide (x40.2=0))=true then let x46:=(⟨0, .nil,At.z,(T.arr 32 T.u8).z,0⟩:Al);(some (x46,x40.2)).map fun r=> .inr (.inr r) else some (.inl (IntKind.i64.wrap (s30.1+1),x40.1)) else some (.inr (.inl s30.2))) (1,p7)).bind (Sum.elim (fun(p31:Al)=>some (p31,0)) some)) some)
noncomputable def XG(a:CG [Ak]):Cw tb M5 [Ak] [Ae,(T.int .i64)] a:=Af<|Ai (B7 (t:=Ae) 2 r_ r_) fun x1=>Ad (Ap AE)<|Ag<|Ab r_<|Aa.op (AN (ND (As:=[Ak,T.u8]) ⟨CA,CA,trivial⟩ HU) (.cons Ah<| .one (JY 32 r_))) fun x2=>Ab r_<|Ag<|Ai (SK (t:=Ak) (n:=7) 1005 r_ r_ (.cons r_ D1<| .cons r_ D1<| .cons r_ D1<| .cons r_ D1<| .cons r_ D1<| .cons r_ D1<| .cons r_ D1<| .nil _) r_) fun x3=>Ab r_<|Ag<|Ai (SK (t:=Ak) (n:=7) 1006 r_ r_ (.cons r_ D1<| .cons r_ D1<| .cons r_ D1<| .cons r_ D1<| .cons r_ D1<| .cons r_ D1<| .cons r_ D1<| .nil _) r_) fun x4=>Ab r_<|Ag<|Ai (B7 (t:=Ae) 7 r_ r_) fun x5=>Ag<|Af<|Ad (Ap AE)<|Ac<|Ax<|Aa.loop (id:=0) (σ:=(Int×Al)) (τ:=Al) (fun s6=>⟨[(2, .cp 2 0),(4, .val (Ml (T.sl Ak)) x2),(5, .own 1005),(6, .own 1006),(7, .cp 7 0),(8, .val (T.int .i64) s6.1)],[(2, .cells [(53, .val Ae x1)]),(7, .cells [(53, .val Ae s6.2)]),(1005, .row Ak (.mk x3)),(1006, .row Ak (.mk x4))]⟩) (fun p7=>⟨[(2, .cp 2 0),(4, .val (Ml (T.sl Ak)) x2),(6, .own 1006),(7, .cp 7 0)],[(2, .cells [(53, .val Ae x1)]),(7, .cells [(53, .val Ae p7)]),(1006, .row Ak (.mk x4))]⟩) (1,x5) sB (fun _=>r_) (fun s6=>Af<|Af<|Ab r_<|Aj (Av r_ Ah AE) fun x8=>Ac<|Aa.cond Ah (Aa.skip<|Ag<|Ax<|Af<|Ab r_<|Ab r_<|Aa.op (Ty r_ Ah r_ Ah) fun x9=>Aa.op (Zf (t:=Ak) (u:=Ak) r_ r_ (An _) Ah r_) fun x10=>Ab r_<|Aa.op (Fb r_ (Dp Ah) AE) fun x11=>Ao (HY r_ r_ Ah) fun x12=>Aj (Hr Ah Ah) fun x13=>Ac<|Aa.cond Ah (Ab r_<|Ad (AB Ah)<|Ai (AQ Ah Ah r_ r_ AT r_) fun x14=>A8<|Ac<|Ab r_<|Aj (AW (I:=(IT.int .i64)) Ah AE) fun x15=>Ab r_<|Aa.next (x15,x14) sB) (
 Aa.skip<|A8<|Ac<|Ab r_<|Aj (AW (I:=(IT.int .i64)) Ah AE) fun x16=>Ab r_<|Aa.next (x16,s6.2) sB)) (AD<|C1 s6.2 sB)) (fun p7=>AS<|Ag<|Af<|Ad (AB Ah)<|Ao (AJ (t:=Ae) (u:=(T.int .i64)) Ah r_ r_ AT r_ r_) fun x17=>Aj (Av r_ Ah AE) fun x18=>Ac<|Aa.cond Ah (Af<|Ao (AJ (t:=Ae) (u:=Ae) Ah r_ r_ (An _) r_ r_) fun x19=>Ai (AQ Ah Ah r_ r_ (An _) r_) fun x20=>Ad (Ap AE)<|Ac<|Aa.ret (.cons (Bw r_ r_ r_ (An _) r_ r_)<| .one (Az r_))) (Aa.skip<|Ag<|Af<|Ab r_<|Aj (Dv (Dp Ah)) fun x21=>Ab r_<|Ad (AB Ah)<|Ao (AJ (t:=Ae) (u:=(T.int .i64)) Ah r_ r_ AT r_ r_) fun x22=>Aa.op (Ty r_ Ah r_ Ah) fun x23=>Aa.op (Zf (t:=Ak) (u:=Ak) r_ r_ (An _) Ah r_) fun x24=>Aj (Dj Ah) fun x25=>Aj (AW (I:=(IT.int .i64)) Ah AE) fun x26=>Aj (Av r_ Ah Ah) fun x27=>Ac<|Aa.cond Ah (Af<|Aj (C3 r_ r_ (.nil _)) fun x28=>Ai (AQ Ah Ah r_ r_ (An _) r_) fun x29=>Ad (Ap AE)<|Ac<|Aa.ret (.cons (Bw r_ r_ r_ (An _) r_ r_)<| .one (Az r_))) (Aa.skip<|Ag<|Af<|Ad (Ap AE)<|Ac<|Ax<|Aa.loop (id:=2) (σ:=(Int×Al)) (τ:=Al) (fun s30=>⟨[(2, .cp 2 0),(4, .val (Ml (T.sl Ak)) x2),(6, .own 1006),(7, .cp 7 0),(9, .val (T.int .i64) s30.1)],[(2, .cells [(53, .val Ae x1)]),(7, .cells [(53, .val Ae s30.2)]),(1006, .row Ak (.mk x4))]⟩) (fun p31=>⟨[(2, .cp 2 0),(7, .cp 7 0)],[(2, .cells [(53, .val Ae x1)]),(7, .cells [(53, .val Ae p31)])]⟩) (1,p7) sB (fun _=>r_) (fun s30=>Af<|Af<|Ab r_<|Ab r_<|Aj (Dv (Dp Ah)) fun x32=>Aj (Av r_ Ah Ah) fun x33=>Ac<|Aa.cond Ah (Aa.skip<|Ag<|Ax<|Af<|Aa.regd 2<|Qt r_ (AJ (t:=Ae) (u:=Ae) Ah r_ r_ (An _) r_ r_)<|Aq r_ (Ap (Cs r_))<|
 Aq r_ (AB Ah)<|Qt r_ (AJ (t:=Ae) (u:=(T.int .i64)) Ah r_ r_ AT r_ r_)<|Mg r_ (Ty r_ Ah r_ Ah) fun x34 hx34=>Mg r_ (Zf (t:=Ak) (u:=Ak) r_ r_ (An _) Ah r_) fun x35 hx35=>Aq r_ (Ap (Cs r_))<|CN r_ (EQ (I:=(IT.int .i64)) Ah AE) fun x36=>A4.op r_ (DT Ah Ah) fun x37=>Aq r_ (Ap (Cs r_))<|Aq r_ (Ap (Cs r_))<|Mg r_ (vZ (t:=Ak) (Qr Vh) r_ Ah Ah) fun x38 hx38=>Qt r_ (h_ldP (t:=Ak) (x:=x38) r_ r_ Ah)<|Mg r_ (Bn TQ (.cons Ah<| .cons Ah<| .one Ah)) fun x40 hx40=>Aq r_ (Ap (Cs r_))<|Do r_ (AY Ah r_) fun x41=>Do r_ (AY Ah r_) fun x42=>TL r_ (fun _=> .cons (EY.at (b:=x40) (Bn TQ (.cons Ah<| .cons Ah<| .one Ah)) hx40) Ah ⟨show T.Uni Ae from(LJ (EN Jg (EN (iY (T.Un0.sl (Qr SN))) (EN (LJ (EN (LJ (EN Jg (T.Uni.arr SN))) Jg)) (EN (T.Uni.arr SN) Jg))))),show T.Uni (T.int .i64)from Jg,trivial⟩ (.cons (h_ldP (t:=Ak) (x:=x38) r_ r_ Ah) Ah Vh (.cons (EY.at (b:=x38) (vZ (t:=Ak) (Qr Vh) r_ Ah Ah) hx38) Ah trivial (.cons (EY.at (b:=x35) (Zf (t:=Ak) (u:=Ak) r_ r_ (An _) Ah r_) hx35) Ah (show T.Uni Ak from Vh) (.cons (EY.at (b:=x34) (Ty r_ Ah r_ Ah) hx34) Ah trivial (.cons (AJ (t:=Ae) (u:=(T.int .i64)) Ah r_ r_ AT r_ r_) Ah Jg (.cons (AJ (t:=Ae) (u:=Ae) Ah r_ r_ (An _) r_ r_) Ah (LJ (EN Jg (EN (iY (T.Un0.sl (Qr SN))) (EN (LJ (EN (LJ (EN Jg (T.Uni.arr SN))) Jg)) (EN (T.Uni.arr SN) Jg))))) (.nil)))))))) (.nil) (B7 (t:=Ae) 10 r_ r_) fun x43=>TL r_ (fun _=> .nil) (.nil) (AQ Ah Ah r_ r_ (An _) r_) fun x44=>Aq r_ (Ap (Cs r_))<|Ce<|Ag<|Af<|Ab r_<|Aj (Av r_ Ah AE) fun x45=>Ac<|Aa.cond Ah (Af<|Aj (C3 r_ r_ (.nil _)) fun x46=>
 Ab r_<|Ai (AQ Ah Ah r_ r_ (An _) r_) fun x47=>Ab r_<|Ac<|BB<|Aa.ret (.cons (Bw r_ r_ r_ (An _) r_ r_)<| .one (Az r_))) (Aa.skip<|Ac<|Ao (AJ (t:=Ae) (u:=Ae) Ah r_ r_ (An _) r_ r_) fun x48=>Ai (AQ Ah Ah r_ r_ (An _) r_) fun x49=>A8<|Ac<|Ab r_<|Aj (AW (I:=(IT.int .i64)) Ah AE) fun x50=>Ab r_<|Aa.next (x50,x49) sB)) (AD<|C1 s30.2 sB)) (fun p31=>AS<|Ag<|Ao (AJ (t:=Ae) (u:=Ae) Ah r_ r_ (An _) r_ r_) fun x51=>Ai (AQ Ah Ah r_ r_ (An _) r_) fun x52=>Ad (Ap AE)<|Ac<|Aa.ret (.cons (Bw r_ r_ r_ (An _) r_ r_)<| .one (Az r_))))))
theorem ZH:Spec tb Ib [Ak] [Ae,(T.int .i64)] (fun a=>No a):=
 Spec.of gN r_ r_ r_ XG
noncomputable def RS(a0:(GS UInt8))(a1:(GS UInt8)):Option Bool:=let x3:= !decide ((a0.l.length:Int)=(a1.l.length:Int));if x3=true then some false else (iter (fun(s4:Int)=>if(decide (s4<(a0.l.length:Int)))=true then (DC a0.l s4).bind fun x8=>(DC a1.l s4).bind fun x10=>if(!decide ((x8.toNat:Int)=(x10.toNat:Int)))=true then (some false).map fun r=> .inr (.inr r) else some (.inl (IntKind.i64.wrap (s4+1))) else some (.inr (.inl ()))) 0).bind (Sum.elim (fun(p5:Unit)=>some true) some)
noncomputable def ZR(a:CG [(T.sl T.u8),(T.sl T.u8)]):Cw tb O0 [(T.sl T.u8),(T.sl T.u8)] [T.b] a:=Af<|Ad (Ap DF)<|Ag<|Af<|Ab r_<|Aj (Dv Ah) fun x1=>Ab r_<|Aj (Dv Ah) fun x2=>Aj (Av r_ Ah Ah) fun x3=>Ac<|Aa.cond Ah (Af<|Ad (Ap DF)<|Ac<|Aa.ret (.one (Az r_))) (Aa.skip<|Ag<|Af<|Ad (Ap AE)<|Ac<|Ax<|Aa.loop (id:=0) (σ:=Int) (τ:=Unit) (fun s4=>⟨[(0, .val (T.sl T.u8) a.1),(1, .val (T.sl T.u8) a.2),(5, .val (T.int .i64) s4)],[]⟩) (fun p5=>⟨[],[]⟩) 0 sB (fun _=>r_) (fun s4=>Af<|Af<|Ab r_<|Ab r_<|Aj (Dv Ah) fun x6=>Aj (Av r_ Ah Ah) fun x7=>Ac<|Aa.cond Ah (Aa.skip<|Ag<|Ax<|Af<|Ab r_<|Ab r_<|Aa.op (Fb r_ Ah Ah) fun x8=>Ao (HY r_ r_ Ah) fun x9=>Ab r_<|Ab r_<|Aa.op (Fb r_ Ah Ah) fun x10=>Ao (HY r_ r_ Ah) fun x11=>Aj (E5 (I:=IT.u8) r_ Ah Ah) fun x12=>Ac<|Aa.cond Ah (Af<|Ad (Ap DF)<|Ac<|BB<|Aa.ret (.one (Az r_))) (Aa.skip<|A8<|Ac<|Ab r_<|Aj (AW (I:=(IT.int .i64)) Ah AE) fun x13=>Ab r_<|Aa.next x13 sB)) (AD<|C1 () sB)) (fun p5=>AS<|Ag<|Ad (Ap DF)<|Ac<|Aa.ret (.one (Az r_))))
theorem dI:Spec tb IY [(T.sl T.u8),(T.sl T.u8)] [T.b] (fun a=>RS a.1 a.2):=
 Spec.of lW r_ r_ r_ ZR
noncomputable def RQ(a0:Al)(a1:Al):Option Bool:=(Cg (decide (a0.Kind=a1.Kind)) ((RS a0.Bytes a1.Bytes).bind fun x6=>some x6)).bind fun x7=>(Cg x7 (some (Y4 HS a0.To a1.To))).bind fun x11=>(Cg x11 (some (Y4 (F5.arr 32 F5.u8) a0.Key a1.Key))).bind fun x15=>(Cg x15 (some (decide (a0.Why=a1.Why)))).bind fun x19=>some x19
noncomputable def ZO(a:CG [Ae,Ae]):Cw tb Ox [Ae,Ae] [T.b] a:=Af<|Ai (H5 (t:=Ae) 2 r_ r_ Ah) fun _=>Ai (H5 (t:=Ae) 3 r_ r_ Ah) fun _=>Ad (Ap DF)<|Ag<|Ad (AB Ah)<|Ao (AJ (t:=Ae) (u:=(T.int .i64)) Ah r_ r_ AT r_ r_) fun x1=>Ad (AB Ah)<|Ao (AJ (t:=Ae) (u:=(T.int .i64)) Ah r_ r_ AT r_ r_) fun x2=>Aj (Av r_ Ah Ah) fun x3=>Ab r_<|Aa.and 5 r_ r_ r_ (AF (AB Ah)<|Ck (AJ (t:=Ae) (u:=(Ml (T.sl T.u8))) Ah r_ r_ Bv r_ r_) fun x4=>AF (AB Ah)<|Ck (AJ (t:=Ae) (u:=(Ml (T.sl T.u8))) Ah r_ r_ Bv r_ r_) fun x5=>Be.op (AN dI (.cons (Dp Ah)<| .one (Dp Ah))) fun x6=>Be.nil Ah) fun x7=>Ab r_<|Aa.and 5 r_ r_ r_ (AF (AB Ah)<|Ck (AJ (t:=Ae) (u:=At) Ah r_ r_ CP r_ r_) fun x8=>AF (AB Ah)<|Ck (AJ (t:=Ae) (u:=At) Ah r_ r_ CP r_ r_) fun x9=>AX (wA HS r_ r_ Ah Ah) fun x10=>Be.nil Ah) fun x11=>Ab r_<|Aa.and 5 r_ r_ r_ (AF (AB Ah)<|Ck (AJ (t:=Ae) (u:=(T.arr 32 T.u8)) Ah r_ r_ Dq r_ r_) fun x12=>AF (AB Ah)<|Ck (AJ (t:=Ae) (u:=(T.arr 32 T.u8)) Ah r_ r_ Dq r_ r_) fun x13=>AX (wA (F5.arr 32 F5.u8) r_ r_ Ah Ah) fun x14=>Be.nil Ah) fun x15=>Ab r_<|Aa.and 5 r_ r_ r_ (AF (AB Ah)<|Ck (AJ (t:=Ae) (u:=(T.int .i64)) Ah r_ r_ CO r_ r_) fun x16=>AF (AB Ah)<|Ck (AJ (t:=Ae) (u:=(T.int .i64)) Ah r_ r_ CO r_ r_) fun x17=>AX (Av r_ Ah Ah) fun x18=>Be.nil Ah) fun x19=>Ab r_<|Ac<|Aa.ret (.one (Az r_))
theorem dH:Spec tb IX [Ae,Ae] [T.b] (fun a=>RQ a.1 a.2):=
 Spec.of lT r_ r_ r_ ZO
noncomputable def KY(a0:AH):Option Bool:=if(decide (9000<(a0.length:Int)))=true then (Nu ()).bind fun x3=>some x3 else (CB a0).bind fun x4=>(No a0).bind fun x9=>(RQ x4.1 x9.1).bind fun x16=>(Cg x16 (some (decide (x4.2=x9.2)))).bind fun x18=>(Cg x18 ((JJ (!decide (x9.2=0)) ((E3 x4.1).bind fun x21=>some x21)).bind fun x22=>some x22)).bind fun x23=>(Cg x23 ((Nu ()).bind fun x24=>some x24)).bind fun x25=>some x25
noncomputable def Qw(a:CG [Ak]):Cw tb Hz [Ak] [T.b] a:=Af<|Ad (Ap DF)<|Ag<|Af<|Ab r_<|Aj (Dj Ah) fun x1=>Aj (Av r_ Ah AE) fun x2=>Ac<|Aa.cond Ah (Af<|Aa.op (AN RD (.nil)) fun x3=>Ab r_<|Ac<|Aa.ret (.one (Az r_))) (Aa.skip<|Ag<|Ab r_<|Aa.op (Bn V7 (.one Ah)) fun x4=>Ab r_<|Ao (AY Ah r_) fun x5=>Ao (AY Ah r_) fun x6=>Ai (B7 (t:=Ae) 3 r_ r_) fun x7=>Ai (AQ Ah Ah r_ r_ (An _) r_) fun x8=>Ab r_<|Ag<|Ab r_<|Aa.op (Bn ZH (.one Ah)) fun x9=>Ab r_<|Ao (AY Ah r_) fun x10=>Ao (AY Ah r_) fun x11=>Ai (B7 (t:=Ae) 5 r_ r_) fun x12=>Ai (AQ Ah Ah r_ r_ (An _) r_) fun x13=>Ab r_<|Ag<|Ao (AJ (t:=Ae) (u:=Ae) Ah r_ r_ (An _) r_ r_) fun x14=>Ao (AJ (t:=Ae) (u:=Ae) Ah r_ r_ (An _) r_ r_) fun x15=>Aa.op (AN dH (.cons Ah<| .one Ah)) fun x16=>Ab r_<|Aa.and 3 r_ r_ r_ (AF (Ap (Cs r_))<|AF (Ap (Cs r_))<|AX (Av r_ Ah Ah) fun x17=>Be.nil Ah) fun x18=>Ab r_<|Aa.and 6 r_ r_ r_ (AF (Ap (Cs r_))<|AX (Av r_ Ah AE) fun x19=>AF (Ap (Cs r_))<|Be.or 2 r_ r_ r_ r_ r_ (Ck (AJ (t:=Ae) (u:=Ae) Ah r_ r_ (An _) r_ r_) fun x20=>Be.op (AN Pc (.one Ah)) fun x21=>Be.nil Ah) fun x22=>Be.nil Ah) fun x23=>Ab r_<|Aa.and 1 r_ r_ r_ (Be.op (AN RD (.nil)) fun x24=>Be.nil Ah) fun x25=>Ab r_<|Ac<|Aa.ret (.one (Az r_)))
theorem QZ:Spec tb Ey [Ak] [T.b] (fun a=>KY a):=
 Spec.of Sr r_ r_ r_ Qw
end Go.Proofs.YtobejhpigbllpaaGreatDoor.Am
end

namespace Go.Proofs.YtobejhpigbllpaaGreatDoor.Am
theorem cmpA(x y:Bf):Y4 OA x y=decide (x=y):=
 if h:x=y then(Xj (t:=Aw) h).trans (decide_eq_true h).symm else(bY (t:=Aw) h).trans (decide_eq_false h).symm
theorem cmpE(x y:AI):Y4 HS x y=decide (x=y):=
 if h:x=y then(Xj (t:=At) h).trans (decide_eq_true h).symm else(bY (t:=At) h).trans (decide_eq_false h).symm
def In(a:Bf):Bool:=decide (a.V=6∨(a.V=4∧a.B.l.drop 4=List.replicate 12 0))
theorem wL(b0 b1 b2 b3:UInt8)(h:[b0,b1,b2,b3].length=4):Kl ⟨[b0,b1,b2,b3],h⟩=some ⟨4,⟨[b0,b1,b2,b3,0,0,0,0,0,0,0,0,0,0,0,0],rfl⟩⟩:=by
 unfold Kl
 rfl
theorem rR(b0 b1 b2 b3 b4 b5 b6 b7 b8 b9 b10 b11 b12 b13 b14 b15:UInt8)(h:(([b0,b1,b2,b3,b4,b5,b6,b7,b8,b9,b10,b11,b12,b13,b14,b15].drop 0).take 4).length=4):
  Kl ⟨([b0,b1,b2,b3,b4,b5,b6,b7,b8,b9,b10,b11,b12,b13,b14,b15].drop 0).take 4,h⟩=some ⟨4,⟨[b0,b1,b2,b3,0,0,0,0,0,0,0,0,0,0,0,0],rfl⟩⟩:=wL b0 b1 b2 b3 rfl
theorem AaP{p:Bf→Prop}(h: ∀(V:Int) (b0 b1 b2 b3 b4 b5 b6 b7 b8 b9 b10 b11 b12 b13 b14 b15:UInt8),p ⟨V,⟨[b0,b1,b2,b3,b4,b5,b6,b7,b8,b9,b10,b11,b12,b13,b14,b15],rfl⟩⟩): ∀a,p a:=by
 rintro⟨V,⟨l,hl⟩⟩
 match l,hl with
 |[b0,b1,b2,b3,b4,b5,b6,b7,b8,b9,b10,b11,b12,b13,b14,b15],_=>exact h V b0 b1 b2 b3 b4 b5 b6 b7 b8 b9 b10 b11 b12 b13 b14 b15
theorem R7(a:Bf):Kk a=some (In a):=by
 revert a
 refine AaP fun V b0 b1 b2 b3 b4 b5 b6 b7 b8 b9 b10 b11 b12 b13 b14 b15=> ?_
 unfold Kk
 by_cases h6:V=6
 ·simp[h6,JJ,In]
 ·by_cases hv:V=4
  ·subst hv
   have e4:((4:Int)=6)=False:=by simp
   simp only[JJ,Cg,e4,decide_false,Bool.false_eq_true,if_false,decide_true,if_true,rR,Option.bind_some,cmpA,In]
   congr 1
   simp[Bf.mk.injEq,Ar.mk.injEq,List.replicate]
  ·simp[h6,hv,JJ,Cg,In]
def ZA(a:Bf):Nat:=if In a=true then(if a.V=4 then 32 else 128)else 0
theorem mV(a:Bf):O7 a=some (ZA a:Int):=by
 unfold O7 ZA
 rw[R7]
 cases In a with
 |false=>simp
 |true=>by_cases h:a.V=4<;>simp[h]
theorem eE(b:UInt8):UInt8.ofNat b.toNat=b:=by simp
theorem u64N{m:Nat}(h:m<18446744073709551616):(CI (m:Int)).toNat=m:=by
 unfold CI
 rw[show((m:Int)%18446744073709551616).toNat=m by omega]
 simp[UInt64.toNat_ofNat,h]
def JV(e:AI):Bool:=In e.A&&(decide (1≤e.Port)&&decide (e.Port≤65535))
theorem Ro(e:AI):Gl e=some (JV e):=by
 unfold Gl JV
 rw[R7]
 cases In e.A<;>by_cases h1:1≤e.Port<;>simp[Cg,h1]
end Go.Proofs.YtobejhpigbllpaaGreatDoor.Am
namespace Go.Proofs.YtobejhpigbllpaaGreatDoor.Am
theorem QO(l:AH)(c:UInt8):Hu l c=some (N2 l c):=rfl
theorem Vr(l:AH)(c:UInt8)(hl:l.length<1099511627776):((∀x∈l,x≠c)∧F6 l c=some (l,[],false))∨ ∃p q,l=p++c::q∧(∀x∈p,x≠c)∧F6 l c=some (p,q,true):=by
 rcases Mz l c with ⟨h,e⟩|⟨p,q,rfl,h,e⟩
 ·left
  exact⟨h,by simp[F6,QO,e]⟩
 ·right
  refine⟨p,q,rfl,h,?_⟩
  have hlen:(p++c::q).length=p.length+(q.length+1):=by simp
  simp only[F6,QO,e,Option.bind_some]
  rw[if_neg (by simp),PP (by omega),show(p.length:Int)+1=((p.length+1:Nat):Int) by omega,Bu (by omega),Hc (by omega)]
  simp[List.drop_append]
theorem YT(l:AH)(c:UInt8)(hl:l.length<1073741824):IS l c=some (.mk (AL c l)):=by
 unfold IS
 rw[vR (b:= .inr (.mk (AL c l))) (fun s=>s.1.length) (fun s=>s.2.l++AL c s.1=AL c l∧s.1.length+s.2.l.length≤l.length)]
 ·rfl
 ·rintro⟨s,g⟩ ⟨h1,h2⟩
  dsimp only at h1 h2 ⊢
  have hap: ∀x,Ng 16 g [x]=some (.mk (g.l++[x])):=fun x=>SE (by unfold Di;omega)
  rcases Vr s c (by omega)with ⟨hn,e⟩|⟨p,q,rfl,hn,e⟩
  ·right
   simp only[e,Option.bind_some,hap]
   rw[HC hn]at h1
   simp[h1]
  ·left
   refine⟨(q, .mk (g.l++[p])),?_,?_,?_⟩
   ·simp only[e,Option.bind_some,hap];simp
   ·rw[GA hn]at h1
    simp only[List.length_append,List.length_cons]at h2
    refine⟨by simpa using h1,?_⟩
    simp only[EI,List.length_append,List.length_cons,List.length_nil];omega
   ·simp;omega
 ·exact⟨by simp,by simp⟩
theorem Hf(l:AH)(c:UInt8)(hl:l.length<1073741824):Gh l c=some (.mk (AL c l)):=by
 unfold Gh
 refine IU (fun s=>l.length-s.2.1.toNat)
  (fun s=> ∃b j:Nat,s.1=b∧s.2.1=j∧b≤j∧j≤l.length∧(∀x∈(l.take j).drop b,x≠c)∧s.2.2.l.length≤b∧s.2.2.l++AL c (l.drop b)=AL c l)
  (fun r=> ∃b:Nat,∃g,r= .inl ((b:Int),g)∧b≤l.length∧g.l.length≤b∧g.l++[l.drop b]=AL c l) ⟨0,0,rfl,rfl,by omega,by omega,by simp,by simp,by simp⟩ ?_ ?_
 rotate_left
 ·rintro _ ⟨b,g,rfl,h1,h2,h3⟩
  simp only[Option.bind_some,Sum.elim_inl,Hc h1]
  rw[SE (by unfold Di;omega),h3,Option.bind_some]
 ·rintro⟨b',j',g⟩ ⟨b,j,rfl,rfl,h1,h2,h3,h4,h5⟩
  dsimp only at h4 h5 ⊢
  have hsplit:l.drop b=(l.take j).drop b++l.drop j:=by
   rw[←List.drop_append_of_le_length (by simp;omega),List.take_append_drop]
  by_cases hj:j<l.length
  ·rw[if_pos (by simpa using hj),BF,List.getElem?_eq_getElem hj]
   simp only[Option.bind_some]
   have hdj:l.drop j=l[j]::l.drop (j+1):=List.drop_eq_getElem_cons hj
   rw[show(j:Int)+1=((j+1:Nat):Int) by omega,Bu (by omega)]
   left
   by_cases hx:l[j]=c
   ·rw[if_pos (by simp[hx]),sY h1 (by omega)]
    simp only[Option.bind_some]
    rw[SE (by unfold Di;omega)]
    refine⟨_,rfl,⟨j+1,j+1,rfl,rfl,by omega,by omega,by simp,?_,?_⟩,by dsimp only;omega⟩
    ·simp only[EI,List.length_append,List.length_cons,List.length_nil];omega
    ·rw[hsplit,hdj,hx,GA h3]at h5
     simpa using h5
   ·rw[if_neg (by simp only[decide_eq_true_eq];exact fun e=>hx (UInt8.toNat_inj.1 (by omega)))]
    refine⟨_,rfl,⟨b,j+1,rfl,rfl,by omega,by omega,?_,h4,h5⟩,by dsimp only;omega⟩
    intro x hxm
    rw[List.take_succ_eq_append_getElem hj,List.drop_append_of_le_length (by simp;omega)]at hxm
    rcases List.mem_append.1 hxm with h|h
    ·exact h3 x h
    ·rw[List.mem_singleton.1 h];exact hx
  ·rw[if_neg (by simpa using hj)]
   right
   refine⟨_,rfl,b,g,rfl,by omega,h4,?_⟩
   have:l.drop j=[]:=List.drop_eq_nil_of_le (by omega)
   rw[this,List.append_nil]at hsplit
   rw[hsplit,HC h3]at h5
   rw[hsplit];exact h5
theorem WD(c:UInt8): ∀l:AH,Lib.index l [c]=N2 l c
 |[]=>rfl
 |x::l=>by
  have ih:=WD c l
  have hg:=Lib.index_ge l [c]
  unfold Lib.index
  by_cases h:x=c
  ·subst h
   simp[N2,List.findIdx?_cons,List.isPrefixOf]
  ·have h': ¬c=x:=fun e=>h e.symm
   rw[if_neg (by simp[List.isPrefixOf,h'])]
   rw[ih]
   unfold N2
   rw[List.findIdx?_cons]
   have hx:(x==c)=false:=by simpa using h
   rw[hx]
   cases e:l.findIdx? (fun y=>y==c)with
   |none=>simp
   |some i=>
    simp only[Option.map_some,Bool.false_eq_true,if_false]
    rw[if_neg (by simp)]
    simp
theorem rG(l:AH)(c:UInt8)(hl:l.length<1073741824):Kn l [c]=some (N2 l c):=by
 unfold Kn
 have:Ch l [c]=some (N2 l c):=by
  unfold Ch indexS
  rw[if_pos (by omega),WD]
 rw[this];rfl
end Go.Proofs.YtobejhpigbllpaaGreatDoor.Am
namespace Go.Proofs.YtobejhpigbllpaaGreatDoor.Am
def blk(c:UInt8):Bool:=c==32||c==9||c==13
end Go.Proofs.YtobejhpigbllpaaGreatDoor.Am
namespace Go.Proofs.YtobejhpigbllpaaGreatDoor.Am
end Go.Proofs.YtobejhpigbllpaaGreatDoor.Am
namespace Go.Proofs.YtobejhpigbllpaaGreatDoor.Am
theorem fY(l:AH)(k:Nat)(h:k<l.length):(⟨l.toArray⟩:ByteArray).get! k=l[k]:=by
 show l.toArray[k]! =l[k]
 rw[getElem!_pos _ _ (by simpa using h)];simp
theorem jU(l:AH)(pos:Nat)(h:pos<l.length):(l[pos].toNat<128∧Hq l pos=((l[pos].toNat:Int),1))∨
  (128≤l[pos].toNat∧128≤(Hq l pos).1∧1≤(Hq l pos).2∧ ∀j,j<(Hq l pos).2→ ∃hj:pos+j<l.length,128≤(l[pos+j]).toNat):=by
 have hsz:(⟨l.toArray⟩:ByteArray).size=l.length:=by simp[ByteArray.size]
 have h0:=fY l pos h
 by_cases hb:l[pos].toNat<128
 ·left
  refine⟨hb,?_⟩
  simp only[Hq,Utf8.decode,Nat.add_zero,h0,hb,if_true]
 ·right
  have hb':128≤l[pos].toNat:=by omega
  refine⟨hb',?_⟩
  have hd0: ∀j,j<1→ ∃hj:pos+j<l.length,128≤(l[pos+j]).toNat:=fun j hj=>by
   obtain rfl:j=0:=by omega
   exact⟨h,hb'⟩
  have hc: ∀k,(decide (pos+k<(⟨l.toArray⟩:ByteArray).size)&&((⟨l.toArray⟩:ByteArray).get! (pos+k)).toNat/64==2)=true→ ∃hj:pos+k<l.length,128≤(l[pos+k]).toNat:=fun k hk=>by
   simp only[Bool.and_eq_true,decide_eq_true_eq,beq_iff_eq,hsz]at hk
   refine⟨hk.1,?_⟩
   have:=hk.2
   rw[fY l _ hk.1]at this
   omega
  simp only[Hq,Utf8.decode,Nat.add_zero,h0]
  rw[if_neg hb]
  have err:(128:Int)≤((Utf8.runeError:Nat):Int):=by simp[Utf8.runeError]
  split
  ·rename_i hx
   simp only[Bool.and_eq_true]at hx
   have h1:=hc 1 (by simpa using hx.2)
   split
   ·rename_i hy
    refine⟨by simp only;omega,by simp,fun j hj=> ?_⟩
    simp only at hj
    rcases(show j=0∨j=1 by omega)with rfl|rfl
    ·exact hd0 0 (by omega)
    ·exact h1
   ·exact⟨err,by simp,hd0⟩
  ·split
   ·rename_i hx
    simp only[Bool.and_eq_true]at hx
    have h1:=hc 1 (by simpa using hx.1.2)
    have h2:=hc 2 (by simpa using hx.2)
    split
    ·rename_i hy
     simp only[Bool.and_eq_true,decide_eq_true_eq]at hy
     refine⟨by simp only;omega,by simp,fun j hj=> ?_⟩
     simp only at hj
     rcases(show j=0∨j=1∨j=2 by omega)with rfl|rfl|rfl
     ·exact hd0 0 (by omega)
     ·exact h1
     ·exact h2
    ·exact⟨err,by simp,hd0⟩
   ·split
    ·rename_i hx
     simp only[Bool.and_eq_true]at hx
     have h1:=hc 1 (by simpa using hx.1.1.2)
     have h2:=hc 2 (by simpa using hx.1.2)
     have h3:=hc 3 (by simpa using hx.2)
     split
     ·rename_i hy
      simp only[Bool.and_eq_true,decide_eq_true_eq]at hy
      refine⟨by simp only;omega,by simp,fun j hj=> ?_⟩
      simp only at hj
      rcases(show j=0∨j=1∨j=2∨j=3 by omega)with rfl|rfl|rfl|rfl
      ·exact hd0 0 (by omega)
      ·exact h1
      ·exact h2
      ·exact h3
     ·exact⟨err,by simp,hd0⟩
    ·exact⟨err,by simp,hd0⟩
def two(a b c:UInt8):Bool:=c==a||c==b
end Go.Proofs.YtobejhpigbllpaaGreatDoor.Am
namespace Go.Proofs.YtobejhpigbllpaaGreatDoor.Am
theorem Y3(l:AH)(c:UInt8)(hl:l.length<1073741824):HT l [c]=some (decide (c∈l)):=by
 simp only[HT,rG l c hl,Option.bind_some]
 congr 1
 rw[Bool.eq_iff_iff]
 simp only[decide_eq_true_eq]
 rcases Mz l c with ⟨h,e⟩|⟨p,q,rfl,h,e⟩
 ·rw[e]
  exact⟨fun h=>by omega,fun hm=>absurd rfl (h c hm)⟩
 ·rw[e];simp
end Go.Proofs.YtobejhpigbllpaaGreatDoor.Am
namespace Go.Proofs.YtobejhpigbllpaaGreatDoor.Am
end Go.Proofs.YtobejhpigbllpaaGreatDoor.Am
namespace Go.Proofs.YtobejhpigbllpaaGreatDoor.Am
end Go.Proofs.YtobejhpigbllpaaGreatDoor.Am
namespace Go.Proofs.YtobejhpigbllpaaGreatDoor.Am
def Uw:Nat→Nat→AH
 |0,_=>[]
 |k+1,n=>if n<10 then [UInt8.ofNat (48+n)]else Uw k (n/10)++[UInt8.ofNat (48+n%10)]
def Q7(n:Nat):AH:=Uw 20 n
theorem Zp: ∀(k n:Nat),(Uw k n).length≤k
 |0,_=>by simp[Uw]
 |k+1,n=>by
  rw[Uw]
  split
  ·simp
  ·simp[Zp k]
theorem Sw(n:Nat):(Q7 n).length≤20:=Zp 20 n
theorem u8_of{m:Nat}(h:m<256):IT.u8.ofI (m:Int)=UInt8.ofNat m:=by
 show UInt8.ofNat ((m:Int)%256).toNat=_
 rw[show((m:Int)%256).toNat=m by omega]
def NF{α:Type}:List α→GS α
 |[]=> .nil
 |x::l=> .mk (x::l)
theorem LZ{α:Type}: ∀l:List α,(NF l).l=l
 |[]=>rfl
 |_::_=>rfl
theorem gB{α:Type}: ∀(l:List α) (x:α),NF (l++[x])= .mk (l++[x])
 |[],_=>rfl
 |_::_,_=>rfl
end Go.Proofs.YtobejhpigbllpaaGreatDoor.Am
namespace Go.Proofs.YtobejhpigbllpaaGreatDoor.Am
def tX:Nat→Nat→AH
 |0,_=>[]
 |w+1,n=>tX w (n/10)++[UInt8.ofNat (48+n%10)]
theorem iA: ∀(N k n:Nat),N<k→n<10^(N+1)→(N=0∨10^N≤n)→Uw k n=tX (N+1) n
 |0,k+1,n,_,h,_=>by
  have hn:n<10:=by simpa using h
  rw[Uw,if_pos hn]
  simp[tX,Nat.mod_eq_of_lt hn]
 |N+1,k+1,n,hk,h,h'=>by
  have h1:10^(N+1)≤n:=h'.resolve_left (by omega)
  have h10:10≤n:=Nat.le_trans (by rw[Nat.pow_succ];have:=Nat.pow_pos (n:=N) (show 0<10 by decide);omega) h1
  rw[Uw,if_neg (by omega),iA N k (n/10) (by omega) ((Nat.div_lt_iff_lt_mul (by decide)).2 (by rw[←Nat.pow_succ];exact h)) (.inr ((Nat.le_div_iff_mul_le (by decide)).2 (by rw[←Nat.pow_succ];exact h1)))]
  rfl
theorem G9{m:Nat}(h:m<18446744073709551616):(CI (m:Int)).toNat=m:=u64N h
theorem NH{m:Nat}(h:m<4294967296):(Dz (m:Int)).toNat=m:=by
 show(UInt32.ofNat ((m:Int)%4294967296).toNat).toNat=m
 rw[show((m:Int)%4294967296).toNat=m by omega]
 simp[UInt32.toNat_ofNat,h]
theorem mod64(x c:UInt64)(hc:0<c.toNat): ∃y:UInt64,(if(c.toNat:Int)=0 then none else some (CI (Int.tmod (x.toNat:Int) (c.toNat:Int))))=some y∧y.toNat=x.toNat%c.toNat:=
 ⟨_,if_neg (by omega),by rw[←Int.ofNat_tmod,G9 (by have:=x.toNat_lt;have:=Nat.mod_le x.toNat c.toNat;omega)]⟩
theorem div64(x c:UInt64)(hc:0<c.toNat): ∃y:UInt64,(if(c.toNat:Int)=0 then none else some (CI (Int.tdiv (x.toNat:Int) (c.toNat:Int))))=some y∧y.toNat=x.toNat/c.toNat:=
 ⟨_,if_neg (by omega),by rw[←Int.ofNat_tdiv,G9 (by have:=x.toNat_lt;have:=Nat.div_le_self x.toNat c.toNat;omega)]⟩
theorem Za(x c:UInt32)(hc:0<c.toNat): ∃y:UInt32,(if(c.toNat:Int)=0 then none else some (Dz (Int.tmod (x.toNat:Int) (c.toNat:Int))))=some y∧y.toNat=x.toNat%c.toNat:=
 ⟨_,if_neg (by omega),by rw[←Int.ofNat_tmod,NH (by have:=x.toNat_lt;have:=Nat.mod_le x.toNat c.toNat;omega)]⟩
theorem Zo(x c:UInt32)(hc:0<c.toNat): ∃y:UInt32,(if(c.toNat:Int)=0 then none else some (Dz (Int.tdiv (x.toNat:Int) (c.toNat:Int))))=some y∧y.toNat=x.toNat/c.toNat:=
 ⟨_,if_neg (by omega),by rw[←Int.ofNat_tdiv,NH (by have:=x.toNat_lt;have:=Nat.div_le_self x.toNat c.toNat;omega)]⟩
theorem Xf(x:UInt32)(h:x.toNat<1000):(Dz ((x.toNat:Int)*((2:UInt32).toNat:Int))).toNat=2*x.toNat:=by
 rw[show((x.toNat:Int)*((2:UInt32).toNat:Int))=((2*x.toNat:Nat):Int) by rw[show((2:UInt32).toNat:Int)=2 from rfl];omega,NH (by omega)]
theorem inc32(x:UInt32)(h:x.toNat<1000):((Dz ((x.toNat:Int)+((1:UInt32).toNat:Int))).toNat:Int)=((x.toNat+1:Nat):Int):=by
 rw[show((x.toNat:Int)+((1:UInt32).toNat:Int))=((x.toNat+1:Nat):Int) by rw[show((1:UInt32).toNat:Int)=1 from rfl];omega,NH (by omega)]
def ZM:AH:=[48,48,48,49,48,50,48,51,48,52,48,53,48,54,48,55,48,56,48,57,49,48,49,49,49,50,49,51,49,52,49,53,49,54,49,55,49,56,49,57,50,48,50,49,50,50,50,51,50,52,50,53,50,54,50,55,50,56,50,57,51,48,51,49,51,50,51,51,51,52,51,53,51,54,51,55,51,56,51,57,52,48,52,49,52,50,52,51,52,52,52,53,52,54,52,55,52,56,52,57,53,48,53,49,53,50,53,51,53,52,53,53,53,54,53,55,53,56,53,57,54,48,54,49,54,50,54,51,54,52,54,53,54,54,54,55,54,56,54,57,55,48,55,49,55,50,55,51,55,52,55,53,55,54,55,55,55,56,55,57,56,48,56,49,56,50,56,51,56,52,56,53,56,54,56,55,56,56,56,57,57,48,57,49,57,50,57,51,57,52,57,53,57,54,57,55,57,56,57,57]
theorem jQ: ∀k:Fin 100,ZM[2*k.1+1]? =some (UInt8.ofNat (48+k.1%10))∧ZM[2*k.1]? =some (UInt8.ofNat (48+k.1/10)):=by decide+kernel
def XW(A:Ar UInt8 24)(o k:Nat):Ar UInt8 24:=(A.set (o+1) (UInt8.ofNat (48+k%10))).set o (UInt8.ofNat (48+k/10))
theorem NU{N i o k:Nat}{A:Ar UInt8 24}{x:UInt32}{c d:Int}{γ:Type}{K:Ar UInt8 24→Option γ}(hN:N≤24)(hi:i≤N)(hx:x.toNat=2*k)(hk:k<100)(hc:(i:Int)-c=((o+1:Nat):Int))(hd:(i:Int)-d=(o:Nat))(ho:o+1<N):
  ((DC ZM ((Dz ((x.toNat:Int)+((1:UInt32).toNat:Int))).toNat:Int)).bind fun y=>(DC ZM (x.toNat:Int)).bind fun z=>
   (if 0+N*1≤24 then C2 N (IntKind.i64.wrap ((i:Int)-c))else none).bind fun p=>(if p<24 then some (A.set p y)else none).bind fun B=>
   (if 0+N*1≤24 then C2 N (IntKind.i64.wrap ((i:Int)-d))else none).bind fun q=>(if q<24 then some (B.set q z)else none).bind K)=K (XW A o k):=by
 obtain⟨g1,g2⟩:=jQ ⟨k,hk⟩
 rw[inc32 x (by omega),hx,BF,BF,g1,g2,hc,hd,Bu (by omega),Bu (by omega),if_pos (by omega),if_pos (by omega),E4 (by omega),E4 (by omega)]
 simp only[Option.bind_some]
 rw[if_pos (by omega)]
 simp only[Option.bind_some]
 rw[if_pos (by omega)]
 rfl
def Vg(N a i u:Nat)(A:Ar UInt8 24):Prop:=i≤N∧u<10^i∧tX N a=tX i u++(A.l.take N).drop i
theorem setTwo{l:List UInt8}{N o:Nat}{x y:UInt8}(h:o+1<N)(hl:N≤l.length):(((l.set (o+1) y).set o x).take N).drop o=x::y::(l.take N).drop (o+2):=by
 apply List.ext_getElem?
 intro j
 rw[List.getElem?_drop,List.getElem?_take,List.getElem?_set,List.getElem?_set]
 match j with
 |0=>simp;omega
 |1=>simp;omega
 |j+2=>
  simp only[List.getElem?_cons_succ,List.getElem?_drop,List.getElem?_take]
  rw[if_neg (show¬o=o+(j+2) by omega),if_neg (show¬o+1=o+(j+2) by omega),show o+(j+2)=o+2+j by omega]
theorem Vg.two{N a i u o k:Nat}{A:Ar UInt8 24}(h:Vg N a i u A)(hN:N≤24)(ho:i=o+2)(hk:k=u%100):Vg N a o (u/100) (XW A o k):=by
 obtain⟨h1,h2,h3⟩:=h
 subst ho hk
 refine⟨by omega,?_,?_⟩
 ·rw[Nat.div_lt_iff_lt_mul (by decide)]
  rw[show 10^o*100=10^(o+2) by rw[Nat.pow_succ,Nat.pow_succ,Nat.mul_assoc]]
  exact h2
 ·have hs:((XW A o (u%100)).l.take N).drop o=UInt8.ofNat (48+u%100/10)::UInt8.ofNat (48+u%100%10)::(A.l.take N).drop (o+2):=setTwo (by omega) (by rw[A.len];exact hN)
  rw[hs,h3]
  simp only[tX,List.append_assoc,List.cons_append,List.nil_append]
  rw[show u/10/10=u/100 by omega,show u/10%10=u%100/10 by omega,show u%10=u%100%10 by omega]
theorem Vg.one{N a i u:Nat}{A:Ar UInt8 24}(h:Vg N a i u A)(hN:N≤24)(hi:i=1):Vg N a 0 0 (A.set 0 (UInt8.ofNat (48+u))):=by
 obtain⟨h1,h2,h3⟩:=h
 subst hi
 have hu:u<10:=by simpa using h2
 refine⟨by omega,by simp,?_⟩
 rw[h3]
 have:(A.set 0 (UInt8.ofNat (48+u))).l=A.l.set 0 (UInt8.ofNat (48+u)):=rfl
 rw[this]
 cases hA:A.l with
 |nil=>have:=A.len;rw[hA]at this;simp at this
 |cons y l=>
  match N,h1 with
  |N+1,_=>simp[tX,Nat.mod_eq_of_lt hu]
theorem shr64(x c:UInt64)(hc:c.toNat<64): ∃y:UInt64,(if(c.toNat:Int)<0 then none else some (CI (Int.fdiv (x.toNat:Int) (2^(min ((c.toNat:Int).toNat) 64)))))=some y∧y.toNat=x.toNat/2^c.toNat:=by
 refine⟨_,if_neg (by omega),?_⟩
 rw[Int.toNat_natCast,Nat.min_eq_left (by omega),show(2:Int)^c.toNat=((2^c.toNat:Nat):Int) by push_cast;rfl,←Int.ofNat_fdiv,G9]
 exact Nat.lt_of_le_of_lt (Nat.div_le_self _ _) (by have:=x.toNat_lt;omega)
theorem ZE{γ:Type}{x c b:UInt64}{n:Nat}{d e:Int}{K:UInt64×Int→Option γ}{r:Option γ}(hb:b.toNat=2^c.toNat)(hc:c.toNat<64)(hd:d=(n:Nat))(he:e=((n+c.toNat:Nat):Int))
  (hK: ∀(y:UInt64) (k:Nat),k≤c.toNat→y.toNat=x.toNat/2^k→(1≤x.toNat→1≤y.toNat)→(x.toNat<2^c.toNat*2^c.toNat→y.toNat<2^c.toNat)→K (y,((n+k:Nat):Int))=r):
  ((if(decide ((b.toNat:Int)≤(x.toNat:Int)))=true then
   (if(c.toNat:Int)<0 then none else some (CI (Int.fdiv (x.toNat:Int) (2^(min ((c.toNat:Int).toNat) 64))))).bind fun z=>some (.inl (z,e))
   else some (.inl (x,d)):Option ((UInt64×Int)⊕γ)).bind (Sum.elim K some))=r:=by
 by_cases h:b.toNat≤x.toNat
 ·rw[if_pos (by simpa using h)]
  obtain⟨y,e1,e2⟩:=shr64 x c hc
  rw[e1,he]
  refine hK y c.toNat (Nat.le_refl _) e2 (fun _=> ?_) (fun h2=> ?_)
  ·rw[e2,Nat.le_div_iff_mul_le (Nat.pow_pos (by decide)),Nat.one_mul,←hb];exact h
  ·rw[e2];exact(Nat.div_lt_iff_lt_mul (Nat.pow_pos (by decide))).2 h2
 ·rw[if_neg (by simpa using h),hd]
  exact hK x 0 (Nat.zero_le _) (by simp) id (fun _=>by omega)
def len8:AH:=[0,1,2,2,3,3,3,3,4,4,4,4,4,4,4,4,5,5,5,5,5,5,5,5,5,5,5,5,5,5,5,5]++List.replicate 32 6++List.replicate 64 7++List.replicate 128 8
theorem vK: ∀v:Fin 256,∃t,len8[v.1]? =some t∧(1≤v.1→v.1<2^t.toNat∧2^(t.toNat-1)≤v.1∧1≤t.toNat∧t.toNat≤8):=by
 have key: ∀v:Fin 256,(match len8[v.1]? with|some t=>decide (1≤v.1→v.1<2^t.toNat∧2^(t.toNat-1)≤v.1∧1≤t.toNat∧t.toNat≤8)|none=>false)=true:=by decide+kernel
 intro v
 have:=key v
 split at this
 ·rename_i t e;exact⟨t,e,of_decide_eq_true this⟩
 ·cases this
set_option maxRecDepth 20000 in
theorem qW(a:UInt64)(h:1≤a.toNat): ∃L:Nat,GV a=some (L:Int)∧1≤L∧L≤64∧a.toNat<2^L∧2^(L-1)≤a.toNat:=by
 have ha:=a.toNat_lt
 have key: ∀r,(∀L:Nat,1≤L→L≤64→a.toNat<2^L→2^(L-1)≤a.toNat→r=some (L:Int))→GV a=r:=by
  intro r hr
  unfold GV
  refine ZE (n:=0) (c:=32) (b:=4294967296) rfl (by decide) rfl rfl fun y1 k1 g1 e1 p1 q1=> ?_
  refine ZE (n:=0+k1) (c:=16) (b:=65536) rfl (by decide) rfl (by rw[show(16:UInt64).toNat=16 from rfl,show(32:UInt64).toNat=32 from rfl]at*;rw[cZ (by omega) (by omega)];push_cast;rfl) fun y2 k2 g2 e2 p2 q2=> ?_
  refine ZE (n:=0+k1+k2) (c:=8) (b:=256) rfl (by decide) rfl (by rw[show(8:UInt64).toNat=8 from rfl,show(16:UInt64).toNat=16 from rfl,show(32:UInt64).toNat=32 from rfl]at*;rw[cZ (by omega) (by omega)];push_cast;rfl) fun y3 k3 g3 e3 p3 q3=> ?_
  rw[show(8:UInt64).toNat=8 from rfl]at g3 q3
  rw[show(16:UInt64).toNat=16 from rfl]at g2 q2
  rw[show(32:UInt64).toNat=32 from rfl]at g1 q1
  have b3:y3.toNat<2^8:=q3 (q2 (q1 (by simpa using ha)))
  have hy3:1≤y3.toNat:=p3 (p2 (p1 h))
  have hv:y3.toNat=a.toNat/2^(k1+k2+k3):=by rw[e3,e2,e1,Nat.div_div_eq_div_mul,Nat.div_div_eq_div_mul,←Nat.pow_add,←Nat.pow_add,Nat.add_assoc]
  obtain⟨t,ht,h1⟩:=vK ⟨y3.toNat,b3⟩
  dsimp only at ht h1
  obtain⟨h2,h3,h4,h5⟩:=h1 hy3
  have hu8:((HF (y3.toNat:Int)).toNat:Int)=(y3.toNat:Int):=by
   show((UInt8.ofNat ((y3.toNat:Int)%256).toNat).toNat:Int)=_
   rw[show((y3.toNat:Int)%256).toNat=y3.toNat by omega,UInt8.toNat_ofNat']
   omega
  dsimp only
  rw[hu8]
  show(DC len8 (y3.toNat:Int)).bind _=r
  rw[BF,ht]
  simp only[Option.bind_some]
  rw[Bu (by omega),cZ (by omega) (by omega),show((0+k1+k2+k3:Nat):Int)+(t.toNat:Int)=((k1+k2+k3+t.toNat:Nat):Int) by omega]
  rw[hv]at h2 h3
  refine(hr _ (by omega) (by omega) ?_ ?_).symm
  ·rw[Nat.div_lt_iff_lt_mul (Nat.pow_pos (by decide)),←Nat.pow_add,Nat.add_comm]at h2
   exact h2
  ·rw[Nat.le_div_iff_mul_le (Nat.pow_pos (by decide)),←Nat.pow_add]at h3
   rw[show k1+k2+k3+t.toNat-1=t.toNat-1+(k1+k2+k3) by omega]
   exact h3
 have hex: ∃L:Nat,1≤L∧L≤64∧a.toNat<2^L∧2^(L-1)≤a.toNat:=by
  refine⟨a.toNat.log2+1,by omega,?_,Nat.lt_log2_self,Nat.log2_self_le (by omega)⟩
  have:=(Nat.log2_lt (by omega:a.toNat≠0) (k:=64)).2 (by simpa using ha)
  omega
 obtain⟨L,l1,l2,l3,l4⟩:=hex
 refine⟨L,key _ fun M m1 m2 m3 m4=> ?_,l1,l2,l3,l4⟩
 have hLM: ∀{A B:Nat},a.toNat<2^A→2^(B-1)≤a.toNat→B≤A:=fun{A B} x y=>by
  have:2^(B-1)<2^A:=Nat.lt_of_le_of_lt y x
  have:=(Nat.pow_lt_pow_iff_right (by decide:1<2)).1 this
  omega
 have:L=M:=Nat.le_antisymm (hLM m3 l4) (hLM l3 m4)
 rw[this]
theorem Aa4: ∀L:Fin 65,∃p:UInt64,lM.l[L.1*78913/262144]? =some p∧p.toNat=10^(L.1*78913/262144)∧(1≤L.1→2^L.1≤10^(L.1*78913/262144+1)∧10^(L.1*78913/262144-1)≤2^(L.1-1))∧L.1*78913/262144≤19:=by
 have key: ∀L:Fin 65,(match lM.l[L.1*78913/262144]? with|some p=>decide (p.toNat=10^(L.1*78913/262144)∧(1≤L.1→2^L.1≤10^(L.1*78913/262144+1)∧10^(L.1*78913/262144-1)≤2^(L.1-1))∧L.1*78913/262144≤19)|none=>false)=true:=by decide+kernel
 intro L
 have:=key L
 split at this
 ·rename_i p e;exact⟨p,e,of_decide_eq_true this⟩
 ·cases this
theorem XX(a:UInt64)(h:100≤a.toNat): ∃N:Nat,DZ a=some ((N+1:Nat):Int)∧N<20∧10^N≤a.toNat∧a.toNat<10^(N+1):=by
 obtain⟨L,e1,l1,l2,l3,l4⟩:=qW a (by omega)
 obtain⟨p,e2,e3,e4,e5⟩:=Aa4 ⟨L,by omega⟩
 obtain⟨e4,e6⟩:=e4 l1
 dsimp only at e2 e3 e4 e5 e6
 have hl:Ea (L:Int)=some ((L*78913/262144:Nat):Int):=by
  unfold Ea
  rw[if_neg (by decide),show((L:Int)*78913)=((L*78913:Nat):Int) by omega,Bu (by omega),show((2:Int)^(min ((18:UInt64).toNat:Int).toNat 64))=((262144:Nat):Int) by rfl,←Int.ofNat_fdiv]
  rfl
 generalize L*78913/262144=k at*
 unfold DZ
 simp only[e1,hl,Option.bind_some,BF,e2,Fs,e3]
 by_cases hp:10^k≤a.toNat
 ·rw[if_pos (decide_eq_true (Int.ofNat_le.2 hp))]
  refine⟨k,?_,by omega,hp,Nat.lt_of_lt_of_le l3 e4⟩
  simp only[Option.bind_some]
  rw[show((k:Nat):Int)+1=((k+1:Nat):Int) by omega,Bu (by omega)]
 ·rw[if_neg (by rw[decide_eq_true_eq];exact fun h=>hp (Int.ofNat_le.1 h))]
  have hpos:1≤k:=by
   rcases Nat.eq_zero_or_pos k with h0|h0
   ·rw[h0]at hp;simp at hp;omega
   ·exact h0
  refine⟨k-1,?_,by omega,Nat.le_trans e6 l4,?_⟩
  ·simp only[Option.bind_some]
   rw[show((k:Nat):Int)+0=((k-1+1:Nat):Int) by omega,Bu (by omega)]
  ·rw[show k-1+1=k by omega];omega
theorem mN{n m:Nat}(h:m≤n):((PL n none (some (m:Int))).map fun p=>p.2)=some m:=by
 simp[PL,h]
theorem pB{α β:Type}{x:Option α}{K:α→Option β}{r:Option β}(Q:α→Prop)(h: ∃b,x=some b∧Q b)(k: ∀b,Q b→K b=r):x.bind K=r:=by
 obtain⟨b,rfl,hb⟩:=h;exact k b hb
theorem cF{α β:Type}{x:Option α}{K:α→Option β}{Q:β→Prop}(R:α→Prop)(h: ∃b,x=some b∧R b)(k: ∀b,R b→ ∃c,K b=some c∧Q c): ∃c,x.bind K=some c∧Q c:=by
 obtain⟨b,rfl,hb⟩:=h;exact k b hb
theorem oB{σ β γ:Type}{F:σ→Option (σ⊕β)}{K:β→Option γ}{Q':γ→Prop}{s:σ}(m:σ→Nat)(I:σ→Prop)(Q:β→Prop)(h:I s)
  (step: ∀s,I s→(∃s',F s=some (.inl s')∧I s'∧m s'<m s)∨ ∃b,F s=some (.inr b)∧Q b) (fin: ∀b,Q b→ ∃c,K b=some c∧Q' c): ∃c,(iter F s).bind K=some c∧Q' c:=
 cF Q (Se m I Q step h) fin
theorem Vg.end{N a u:Nat}{A:Ar UInt8 24}(h:Vg N a 0 u A):A.l.take N=tX N a:=by
 have:=h.2.2
 simp[tX]at this
 exact this.symm
theorem tW{i u:Nat}(h:u<10^i)(hi:i<9):u<4294967296:=Nat.lt_trans h (Nat.lt_of_le_of_lt (Nat.pow_le_pow_right (by decide) (show i≤8 by omega)) (by decide))
set_option maxHeartbeats 4000000 in
set_option maxRecDepth 20000 in
theorem lP(a:UInt64)(h:100≤a.toNat):Cy a 10=some (Q7 a.toNat):=by
 have halt:=a.toNat_lt
 obtain⟨M,e1,hM,l1,l2⟩:=XX a h
 have hM1:1≤M:=by
  rcases Nat.eq_zero_or_pos M with h0|h0
  ·subst h0;simp at l2;omega
  ·exact h0
 have hdig:Q7 a.toNat=tX (M+1) a.toNat:=iA M 20 a.toNat (by omega) l2 (.inr l1)
 generalize hN:M+1=N at*
 unfold Cy
 rw[if_pos (by decide)]
 dsimp only
 rw[if_neg (by rw[decide_eq_true_eq,show((100:UInt64).toNat:Int)=100 from rfl];omega),e1,Option.bind_some,mN (by omega),Option.bind_some]
 have e100:(100:UInt32).toNat=100:=rfl
 have e10k:(10000:UInt32).toNat=10000:=rfl
 have e100m:(100000000:UInt64).toNat=100000000:=rfl
 refine pB (fun A:Ar UInt8 24=>A.l.take N=tX N a.toNat) ?_ fun A hA=>by
  rw[Option.bind_some]
  simp only[wJ]
  rw[if_pos (by omega)]
  simp only[Option.bind_some,List.drop_zero,EI,hA,hdig]
 refine oB (fun s=>s.2.1.toNat) (fun s:UInt64×Int×Ar UInt8 24=> ∃i:Nat,s.2.1=i∧Vg N a.toNat i s.1.toNat s.2.2)
  (fun r=> ∃(i:Nat) (u:UInt64) (A:Ar UInt8 24),r= .inl (u,(i:Int),A)∧i<8∧Vg N a.toNat i u.toNat A) ⟨N,rfl,Nat.le_refl _,l2,by
   rw[List.drop_of_length_le (by rw[List.length_take];omega),List.append_nil]⟩ ?_ ?_
 ·rintro⟨u,s,A⟩ ⟨i,rfl,hd⟩
  dsimp only at hd ⊢
  have hiN:=hd.1
  by_cases hi:8≤i
  ·left
   rw[if_pos (by rw[decide_eq_true_eq];omega)]
   obtain⟨x13,f13,v13⟩:=mod64 u 100000000 (by decide)
   obtain⟨x15,f15,v15⟩:=div64 u 100000000 (by decide)
   rw[f13,f15,Option.bind_some,Option.bind_some]
   rw[e100m]at v13 v15
   have b13:x13.toNat<4294967296:=by omega
   have w13:=NH b13
   obtain⟨x16,f16,v16⟩:=Zo (Dz (x13.toNat:Int)) 10000 (by decide)
   obtain⟨x17,f17,v17⟩:=Za (Dz (x13.toNat:Int)) 10000 (by decide)
   rw[f16,f17,Option.bind_some,Option.bind_some]
   rw[w13,e10k,v13]at v16 v17
   obtain⟨x18,f18,v18⟩:=Zo x17 100 (by decide)
   obtain⟨x20,f20,v20⟩:=Za x17 100 (by decide)
   obtain⟨x22,f22,v22⟩:=Zo x16 100 (by decide)
   obtain⟨x24,f24,v24⟩:=Za x16 100 (by decide)
   rw[f18,f20,f22,f24,Option.bind_some,Option.bind_some,Option.bind_some,Option.bind_some]
   rw[e100,v17]at v18 v20
   rw[e100,v16]at v22 v24
   refine⟨(x15,((i-8:Nat):Int),XW (XW (XW (XW A (i-2) (u.toNat%100)) (i-4) (u.toNat/100%100)) (i-6) (u.toNat/100/100%100)) (i-8) (u.toNat/100/100/100%100)),?_,⟨i-8,rfl,?_⟩,by dsimp only;omega⟩
   ·refine(NU (N:=N) (i:=i) (o:=i-2) (k:=u.toNat%100) (by omega) hiN (by rw[Xf _ (by omega)];omega) (by omega) (by omega) (by omega) (by omega)).trans ?_
    refine(NU (N:=N) (i:=i) (o:=i-4) (k:=u.toNat/100%100) (by omega) hiN (by rw[Xf _ (by omega)];omega) (by omega) (by omega) (by omega) (by omega)).trans ?_
    refine(NU (N:=N) (i:=i) (o:=i-6) (k:=u.toNat/100/100%100) (by omega) hiN (by rw[Xf _ (by omega)];omega) (by omega) (by omega) (by omega) (by omega)).trans ?_
    refine(NU (N:=N) (i:=i) (o:=i-8) (k:=u.toNat/100/100/100%100) (by omega) hiN (by rw[Xf _ (by omega)];omega) (by omega) (by omega) (by omega) (by omega)).trans ?_
    rw[show((i:Nat):Int)-8=((i-8:Nat):Int) by omega,Bu (by omega)]
   ·rw[show x15.toNat=u.toNat/100/100/100/100 by omega]
    exact(((hd.two (by omega) (by omega) rfl).two (i:=i-2) (o:=i-4) (by omega) (by omega) rfl).two (i:=i-4) (o:=i-6) (by omega) (by omega) rfl).two (i:=i-6) (o:=i-8) (by omega) (by omega) rfl
  ·right
   rw[if_neg (by rw[decide_eq_true_eq];omega)]
   exact⟨_,rfl,i,u,A,rfl,by omega,hd⟩
 ·rintro _ ⟨i,u,A,rfl,hi,hd⟩
  have hiN:=hd.1
  have hu32:=tW hd.2.1 (by omega)
  have wu:=NH hu32
  refine cF (fun r=> ∃(i:Nat) (w:UInt32) (A:Ar UInt8 24),r= .inl ((i:Int),w,A)∧i<4∧Vg N a.toNat i w.toNat A) ?_ ?_
  ·dsimp only
   by_cases h4:4≤i
   ·rw[if_pos (by rw[decide_eq_true_eq];omega)]
    obtain⟨x88,f88,v88⟩:=Za (Dz (u.toNat:Int)) 10000 (by decide)
    obtain⟨x89,f89,v89⟩:=Zo (Dz (u.toNat:Int)) 10000 (by decide)
    rw[f88,f89,Option.bind_some,Option.bind_some]
    rw[wu,e10k]at v88 v89
    obtain⟨x90,f90,v90⟩:=Zo x88 100 (by decide)
    obtain⟨x92,f92,v92⟩:=Za x88 100 (by decide)
    rw[f90,f92,Option.bind_some,Option.bind_some]
    rw[e100,v88]at v90 v92
    refine⟨.inl (((i-4:Nat):Int),x89,XW (XW A (i-2) (u.toNat%100)) (i-4) (u.toNat/100%100)),?_,i-4,_,_,rfl,by omega,?_⟩
    ·refine(NU (N:=N) (i:=i) (o:=i-2) (k:=u.toNat%100) (by omega) hiN (by rw[Xf _ (by omega)];omega) (by omega) (by omega) (by omega) (by omega)).trans ?_
     refine(NU (N:=N) (i:=i) (o:=i-4) (k:=u.toNat/100%100) (by omega) hiN (by rw[Xf _ (by omega)];omega) (by omega) (by omega) (by omega) (by omega)).trans ?_
     rw[show((i:Nat):Int)-4=((i-4:Nat):Int) by omega,Bu (by omega)]
    ·rw[show x89.toNat=u.toNat/100/100 by omega]
     exact(hd.two (by omega) (by omega) rfl).two (i:=i-2) (o:=i-4) (by omega) (by omega) rfl
   ·rw[if_neg (by rw[decide_eq_true_eq];omega)]
    exact⟨_,rfl,i,_,A,rfl,by omega,by rw[wu];exact hd⟩
  ·rintro _ ⟨i,w,A,rfl,hi,hd⟩
   have hiN:=hd.1
   refine cF (fun r=> ∃(i:Nat) (w:UInt32) (A:Ar UInt8 24),r= .inl ((i:Int),w,A)∧i<2∧Vg N a.toNat i w.toNat A) ?_ ?_
   ·dsimp only
    by_cases h2:2≤i
    ·rw[if_pos (by rw[decide_eq_true_eq];omega)]
     obtain⟨x75,f75,v75⟩:=Za w 100 (by decide)
     obtain⟨x77,f77,v77⟩:=Zo w 100 (by decide)
     rw[f75,f77,Option.bind_some,Option.bind_some]
     rw[e100]at v75 v77
     refine⟨.inl (((i-2:Nat):Int),x77,XW A (i-2) (w.toNat%100)),?_,i-2,_,_,rfl,by omega,?_⟩
     ·refine(NU (N:=N) (i:=i) (o:=i-2) (k:=w.toNat%100) (by omega) hiN (by rw[Xf _ (by omega)];omega) (by omega) (by omega) (by omega) (by omega)).trans ?_
      rw[show((i:Nat):Int)-2=((i-2:Nat):Int) by omega,Bu (by omega)]
     ·rw[v77]
      exact hd.two (by omega) (by omega) rfl
    ·rw[if_neg (by rw[decide_eq_true_eq];omega)]
     exact⟨_,rfl,i,_,A,rfl,by omega,hd⟩
   ·rintro _ ⟨i,w,A,rfl,hi,hd⟩
    have hiN:=hd.1
    dsimp only[Sum.elim_inl]
    by_cases h1:0<i
    ·have hi1:i=1:=by omega
     subst hi1
     have hw:w.toNat<10:=by simpa using hd.2.1
     rw[if_pos (by rw[decide_eq_true_eq];omega),if_pos (by omega),show(0:Int)=((0:Nat):Int)from rfl,E4 (by omega),Option.bind_some,if_pos (by omega),Option.bind_some]
     refine⟨_,rfl,?_⟩
     have hb:HF ((Dz (((48:UInt32).toNat:Int)+(w.toNat:Int))).toNat:Int)=UInt8.ofNat (48+w.toNat):=by
      rw[show(((48:UInt32).toNat:Int)+(w.toNat:Int))=((48+w.toNat:Nat):Int) by rw[show((48:UInt32).toNat:Int)=48 from rfl];omega,NH (by omega)]
      exact u8_of (by omega)
     rw[hb]
     exact(hd.one (by omega) rfl).end
    ·obtain rfl:i=0:=by omega
     rw[if_neg (by rw[decide_eq_true_eq];omega)]
     exact⟨_,rfl,hd.end⟩
theorem pO: ∀n:Fin 100,GE (n.1:Int)=some (Q7 n.1):=by decide+kernel
theorem Ok(a:UInt64):FO a=some (Q7 a.toNat):=by
 have:Cy a 10=some (Q7 a.toNat):=by
  by_cases h:100≤a.toNat
  ·exact lP a h
  ·unfold Cy
   rw[if_pos (by decide)]
   dsimp only
   rw[if_pos (by rw[decide_eq_true_eq,show((100:UInt64).toNat:Int)=100 from rfl];omega),Bu (by omega),pO ⟨a.toNat,by omega⟩]
   rfl
 unfold FO IE
 rw[this];rfl
end Go.Proofs.YtobejhpigbllpaaGreatDoor.Am
namespace Go.Proofs.YtobejhpigbllpaaGreatDoor.Am
def EE(sep:AH):List AH→AH
 |[]=>[]
 |[x]=>x
 |x::y::r=>x++sep++EE sep (y::r)
theorem W9(sep:AH): ∀(l:List AH) (x:AH),l≠[]→EE sep (l++[x])=EE sep l++sep++x
 |[],_,h=>absurd rfl h
 |[y],x,_=>rfl
 |y::z::r,x,_=>by
  have:=W9 sep (z::r) x (by simp)
  simp only[List.cons_append,EE]at this ⊢
  rw[this];simp
def ON(l:List AH):Nat:=(l.map List.length).sum
theorem YF{l:List AH}{i:Nat}(h:i<l.length):ON (l.take (i+1))=ON (l.take i)+l[i].length:=by
 unfold ON;rw[List.take_succ_eq_append_getElem h,List.map_append,List.sum_append,List.map_singleton,List.sum_singleton]
theorem HX(sep:AH): ∀l:List AH,(EE sep l).length=sep.length*(l.length-1)+ON l
 |[]=>by simp[EE,ON]
 |[x]=>by simp[EE,ON]
 |x::y::r=>by
  have:=HX sep (y::r)
  simp only[EE,List.length_append,this,ON,List.map_cons,List.sum_cons,List.length_cons,Nat.add_sub_cancel,Nat.mul_add,Nat.mul_one]
  omega
theorem SO(l:List AH)(i:Nat):ON (l.take i)≤ON l:=by
 conv=>rhs;rw[←List.take_append_drop i l]
 unfold ON;rw[List.map_append,List.sum_append];omega
theorem WA(sep:AH)(l:List AH)(i:Nat):(EE sep (l.take i)).length≤(EE sep l).length:=by
 rw[HX,HX]
 have h1:=SO l i
 have h2:sep.length*((l.take i).length-1)≤sep.length*(l.length-1):=Nat.mul_le_mul_left _ (by rw[List.length_take];omega)
 omega
theorem P1(g:GS AH)(sep:AH)(hl:g.l.length<1000000)(hs:sep.length<1000)(h:(EE sep g.l).length<1000000000):CH g sep=some (EE sep g.l):=by
 unfold CH
 have hjl:=HX sep g.l
 by_cases h0:g.l.length=0
 ·rw[if_pos (by rw[decide_eq_true_eq,h0];rfl),List.eq_nil_of_length_eq_zero h0];rfl
 rw[if_neg (by rw[decide_eq_true_eq];omega)]
 by_cases h1:g.l.length=1
 ·rw[if_pos (by rw[decide_eq_true_eq,h1];rfl)]
  obtain⟨x,hx⟩:=List.length_eq_one_iff.1 h1
  rw[hx];rfl
 rw[if_neg (by rw[decide_eq_true_eq];omega)]
 have hw:IntKind.i64.wrap ((g.l.length:Int)-1)=((g.l.length-1:Nat):Int):=by
  rw[show(g.l.length:Int)-1=((g.l.length-1:Nat):Int) by omega,Bu (by omega)]
 have hprod:sep.length*(g.l.length-1)<1000000000:=by omega
 refine pB (fun r=>r= .inl ((sep.length*(g.l.length-1):Nat):Int)) ?_ ?_
 ·by_cases hs0:0<sep.length
  ·rw[if_pos (by rw[decide_eq_true_eq];omega)]
   simp only[hw]
   rw[if_neg (by omega)]
   have hq:IntKind.i64.wrap (Int.tdiv 9223372036854775807 ((g.l.length-1:Nat):Int))=((9223372036854775807/(g.l.length-1):Nat):Int):=by
    rw[show(9223372036854775807:Int)=((9223372036854775807:Nat):Int)from rfl,←Int.ofNat_tdiv,Bu (Nat.lt_of_le_of_lt (Nat.div_le_self _ _) (by decide))]
   rw[hq,Option.bind_some,if_neg (by
    rw[decide_eq_true_eq,Int.ofNat_le]
    have:1000000≤9223372036854775807/(g.l.length-1):=(Nat.le_div_iff_mul_le (by omega)).2 (by omega)
    omega)]
   have e1:IntKind.i64.wrap ((sep.length:Int)*((g.l.length-1:Nat):Int))=((sep.length*(g.l.length-1):Nat):Int):=by
    rw[←Int.natCast_mul,Bu (by omega)]
   rw[e1,Int.zero_add,Bu (by omega)]
   exact⟨_,rfl,rfl⟩
  ·rw[if_neg (by rw[decide_eq_true_eq];omega)]
   have:sep.length=0:=by omega
   exact⟨_,rfl,by rw[this,Nat.zero_mul];rfl⟩
 ·rintro _ rfl
  dsimp only[Sum.elim_inl]
  refine IU (fun s=>g.l.length-s.2.toNat) (fun s=> ∃i:Nat,s.2=i∧i≤g.l.length∧s.1=((sep.length*(g.l.length-1)+ON (g.l.take i):Nat):Int)) (fun r=>r= .inl ((EE sep g.l).length:Int)) ⟨0,rfl,by omega,by simp[ON]⟩ ?_ ?_
  ·rintro⟨n,s⟩ ⟨i,rfl,hi,rfl⟩
   dsimp only
   have hm:=SO g.l i
   by_cases hlt:i<g.l.length
   ·left
    have hm1:=SO g.l (i+1)
    rw[YF hlt]at hm1
    rw[if_pos (by rw[decide_eq_true_eq];omega),BF,List.getElem?_eq_getElem hlt,Option.bind_some]
    rw[if_neg (by rw[decide_eq_true_eq,cZ (by omega) (by omega)];omega)]
    refine⟨_,rfl,⟨i+1,?_,by omega,?_⟩,?_⟩
    ·dsimp only;rw[show(i:Int)+1=((i+1:Nat):Int) by omega,Bu (by omega)]
    ·dsimp only
     rw[YF hlt,←Int.natCast_add,Bu (by omega),Nat.add_assoc]
    ·dsimp only;rw[show(i:Int)+1=((i+1:Nat):Int) by omega,Bu (by omega)];omega
   ·right
    rw[if_neg (by rw[decide_eq_true_eq];omega)]
    exact⟨_,rfl,by rw[List.take_of_length_le (by omega),hjl]⟩
  ·rintro _ rfl
   dsimp only[Sum.elim_inl]
   have hg1:fW [] ((EE sep g.l).length:Int)=some []:=by
    unfold fW;rw[if_pos ⟨rfl,by omega,by unfold Di;omega⟩]
   cases hgl:g with
   |nil=>rw[hgl]at h0;simp at h0
   |mk l=>
    subst hgl
    simp only[EI]at*
    cases l with
    |nil=>simp at h0
    |cons x r=>
     have hx:x.length≤(EE sep (x::r)).length:=by
      have:=WA sep (x::r) 1
      simpa [EE]using this
     rw[hg1,Option.bind_some,show(0:Int)=((0:Nat):Int)from rfl,BF]
     simp only[List.getElem?_cons_zero,Option.bind_some]
     have hb:O5 [] x=some x:=by unfold O5;rw[if_pos (by simp;unfold Di;omega)];rfl
     obtain⟨g2,hsl,hg2⟩: ∃g2:GS AH,slG (.mk (x::r)) (some 1) none=some g2∧g2.l=r:=⟨.mk r,tA (n:=1) (by simp),rfl⟩
     subst hg2
     rw[hb,Option.bind_some,hsl,Option.bind_some]
     refine IU (fun s=>g2.l.length-s.1.toNat) (fun s=> ∃i:Nat,s.1=i∧i≤g2.l.length∧s.2=EE sep ((x::g2.l).take (i+1))) (fun b=>b= .inl (EE sep (x::g2.l))) ⟨0,rfl,by omega,rfl⟩ ?_ ?_
     ·rintro⟨s,t⟩ ⟨i,rfl,hi,rfl⟩
      dsimp only
      by_cases hlt:i<g2.l.length
      ·left
       have hj2:=WA sep (x::g2.l) (i+1+1)
       have hsn:EE sep ((x::g2.l).take (i+1+1))=EE sep ((x::g2.l).take (i+1))++sep++g2.l[i]:=by
        rw[List.take_succ_eq_append_getElem (show i+1<(x::g2.l).length by simpa using hlt),W9 sep _ _ (by simp)]
        rfl
       have hj3:=hj2
       rw[hsn,List.length_append,List.length_append]at hj3
       rw[if_pos (by rw[decide_eq_true_eq];omega),BF,List.getElem?_eq_getElem hlt,Option.bind_some]
       have b1:O5 (EE sep ((x::g2.l).take (i+1))) sep=some (EE sep ((x::g2.l).take (i+1))++sep):=by unfold O5;rw[if_pos (by unfold Di;omega)]
       have b2:O5 (EE sep ((x::g2.l).take (i+1))++sep) g2.l[i]=some (EE sep ((x::g2.l).take (i+1))++sep++g2.l[i]):=by unfold O5;rw[if_pos (by rw[List.length_append];unfold Di;omega)]
       rw[b1,Option.bind_some,b2,Option.bind_some]
       refine⟨_,rfl,⟨i+1,?_,by omega,hsn.symm⟩,?_⟩
       ·dsimp only;rw[show(i:Int)+1=((i+1:Nat):Int) by omega,Bu (by simp at hl;omega)]
       ·dsimp only;rw[show(i:Int)+1=((i+1:Nat):Int) by omega,Bu (by simp at hl;omega)];omega
      ·right
       rw[if_neg (by rw[decide_eq_true_eq];omega)]
       exact⟨_,rfl,by rw[List.take_of_length_le (by simp;omega)]⟩
     ·rintro _ rfl
      dsimp only[Sum.elim_inl]
      have hT:mP (decide (0<((EE sep (x::g2.l)).length:Int))) (EE sep (x::g2.l))=some (EE sep (x::g2.l)):=by
       unfold mP
       refine if_pos ⟨by unfold Di;omega,fun hp h0=> ?_⟩
       rw[decide_eq_true_eq,h0]at hp
       simp at hp
      exact congrArg (fun x:Option AH=>x.bind fun y=>some y) hT
def hd(k:Nat):UInt8:=if k<10 then UInt8.ofNat (48+k)else UInt8.ofNat (87+k)
def hexB(b:UInt8):AH:=[hd (b.toNat/16),hd (b.toNat%16)]
def MS(l:List UInt8):AH:=l.flatMap hexB
theorem Sk(l:List UInt8):(MS l).length=2*l.length:=by
 induction l with
 |nil=>rfl
 |cons b l ih=>simp only[MS,List.flatMap_cons,List.length_append,List.length_cons]at ih ⊢;rw[ih];simp[hexB];omega
theorem rK{l:List UInt8}{i:Nat}(h:i<l.length):MS (l.take (i+1))=MS (l.take i)++[hd (l[i].toNat/16)]++[hd (l[i].toNat%16)]:=by
 rw[List.take_succ_eq_append_getElem h];simp only[MS,List.flatMap_append,List.flatMap_cons,List.flatMap_nil,hexB,List.append_nil,List.append_assoc];rfl
def hdigs:AH:=[48,49,50,51,52,53,54,55,56,57,97,98,99,100,101,102]
theorem Tv: ∀k:Fin 16,hdigs[k.1]? =some (hd k.1):=by decide+kernel
theorem hi_val: ∀b:Fin 256,(if((4:UInt64).toNat:Int)<0 then none else some (HF (Int.fdiv ((UInt8.ofNat b.1).toNat:Int) (2^(min ((4:UInt64).toNat:Int).toNat 8)))))=some (UInt8.ofNat (b.1/16)):=by decide+kernel
theorem lo_val: ∀b:Fin 256,HF (F2 .and .u8 ((UInt8.ofNat b.1).toNat:Int) ((15:UInt8).toNat:Int))=UInt8.ofNat (b.1%16):=by decide+kernel
theorem nat8{k:Nat}(h:k<256):(UInt8.ofNat k).toNat=k:=by rw[UInt8.toNat_ofNat'];omega
theorem Sg(g:GS UInt8)(h:g.l.length<1000000):Jq g=some (MS g.l):=by
 unfold Jq
 refine IU (fun s=>g.l.length-s.1.toNat) (fun s=> ∃i:Nat,s.1=i∧i≤g.l.length∧s.2=MS (g.l.take i)) (fun b=>b= .inl (MS g.l)) ⟨0,rfl,by omega,rfl⟩ ?_ ?_
 ·rintro⟨s,t⟩ ⟨i,rfl,hi,rfl⟩
  dsimp only
  have hlen:=Sk (g.l.take i)
  rw[List.length_take]at hlen
  by_cases hlt:i<g.l.length
  ·left
   rw[if_pos (by rw[decide_eq_true_eq];omega),BF,List.getElem?_eq_getElem hlt,Option.bind_some]
   have hb:=g.l[i].toNat_lt
   have e1:=hi_val ⟨g.l[i].toNat,hb⟩
   have e2:=lo_val ⟨g.l[i].toNat,hb⟩
   simp only[eE]at e1 e2
   rw[e1,Option.bind_some]
   rw[e2,nat8 (by omega),nat8 (by omega),BF,BF]
   have d1:=Tv ⟨g.l[i].toNat/16,by omega⟩
   have d2:=Tv ⟨g.l[i].toNat%16,by omega⟩
   have b1:O5 (MS (g.l.take i)) [hd (g.l[i].toNat/16)]=some (MS (g.l.take i)++[hd (g.l[i].toNat/16)]):=by unfold O5;rw[if_pos (by simp;unfold Di;omega)]
   have b2:O5 (MS (g.l.take i)++[hd (g.l[i].toNat/16)]) [hd (g.l[i].toNat%16)]=some (MS (g.l.take i)++[hd (g.l[i].toNat/16)]++[hd (g.l[i].toNat%16)]):=by unfold O5;rw[if_pos (by simp;unfold Di;omega)]
   refine⟨(((i+1:Nat):Int),MS (g.l.take (i+1))),?_,⟨i+1,rfl,by omega,rfl⟩,by dsimp only;omega⟩
   refine(congrArg (fun x:Option UInt8=>x.bind _) d1).trans ?_
   rw[Option.bind_some,b1,Option.bind_some]
   refine(congrArg (fun x:Option UInt8=>x.bind _) d2).trans ?_
   rw[Option.bind_some,b2,Option.bind_some,rK hlt,show(i:Int)+1=((i+1:Nat):Int) by omega,Bu (by omega)]
  ·right
   rw[if_neg (by rw[decide_eq_true_eq];omega)]
   exact⟨_,rfl,by rw[List.take_of_length_le (by omega)]⟩
 ·rintro _ rfl
  dsimp only[Sum.elim_inl]
  unfold mP
  rw[if_pos ⟨by rw[Sk];unfold Di;omega,fun h=>by cases h⟩]
  rfl
theorem vN(K:Ar UInt8 32):RZ K=some (MS K.l):=by
 unfold RZ
 rw[if_pos (by decide),List.drop_zero,List.take_of_length_le (by rw[K.len];exact Nat.le_refl _),Sg _ (by simp[K.len])]
 rfl
theorem XV: ∀k:Fin 16,LA (k.1:Int)=some [hd k.1]:=by decide+kernel
end Go.Proofs.YtobejhpigbllpaaGreatDoor.Am
namespace Go.Proofs.YtobejhpigbllpaaGreatDoor.Am
def dW(l:List UInt8):AH:=EE [46] (l.map fun b=>Q7 b.toNat)
theorem V3{l:List AH}{n:Nat}(h: ∀x∈l,x.length≤n):ON l≤l.length*n:=by
 induction l with
 |nil=>simp[ON]
 |cons x l ih=>
  have h1:=h x (by simp)
  have h2:=ih fun y hy=>h y (by simp[hy])
  simp only[ON,List.map_cons,List.sum_cons,List.length_cons,Nat.add_mul,Nat.one_mul]at h2 ⊢
  omega
theorem YP(l:List UInt8):(dW l).length≤21*l.length:=by
 unfold dW
 rw[HX]
 have:=V3 (l:=l.map fun b=>Q7 b.toNat) (n:=20) (fun x hx=>by obtain⟨b,_,rfl⟩:=List.mem_map.1 hx;exact Sw _)
 simp at this ⊢
 omega
theorem dec8(b:UInt8):FO (CI (b.toNat:Int))=some (Q7 b.toNat):=by
 rw[Ok,G9 (by have:=b.toNat_lt;omega)]
theorem RM{α:Type}{l d:List α}{x:α}{i:Nat}(h:i<l.length)(hd:l.take i=d):(l.set i x).take (i+1)=d++[x]:=by
 rw[List.take_succ_eq_append_getElem (by rw[List.length_set];exact h),List.getElem_set_self,List.take_set_of_le (Nat.le_refl _),hd]
theorem qD(B:Ar UInt8 4):PX B=some (dW B.l):=by
 have hB:=B.len
 unfold PX
 refine IU (fun s=>4-s.1.toNat) (fun s=> ∃i:Nat,s.1=i∧i≤4∧s.2.l.take i=(B.l.take i).map fun b=>Q7 b.toNat) (fun r=> ∃A:Ar AH 4,r= .inl A∧A.l=B.l.map fun b=>Q7 b.toNat) ⟨0,rfl,by omega,rfl⟩ ?_ ?_
 ·rintro⟨s,A⟩ ⟨i,rfl,hi,hA⟩
  dsimp only at hA ⊢
  by_cases hlt:i<4
  ·left
   rw[if_pos (by rw[decide_eq_true_eq];omega),BF,List.getElem?_eq_getElem (show i<B.l.length by omega),Option.bind_some,dec8,Option.bind_some,E4 hlt,Option.bind_some,if_pos hlt,Option.bind_some]
   refine⟨_,rfl,⟨i+1,?_,by omega,?_⟩,?_⟩
   ·dsimp only;rw[show(i:Int)+1=((i+1:Nat):Int) by omega,Bu (by omega)]
   ·dsimp only
    rw[List.take_succ_eq_append_getElem (show i<B.l.length by omega),List.map_append]
    exact RM (by rw[A.len];exact hlt) hA
   ·dsimp only;rw[show(i:Int)+1=((i+1:Nat):Int) by omega,Bu (by omega)];omega
  ·right
   rw[if_neg (by rw[decide_eq_true_eq];omega)]
   refine⟨_,rfl,A,rfl,?_⟩
   rw[List.take_of_length_le (by rw[A.len];omega),List.take_of_length_le (by omega)]at hA
   exact hA
 ·rintro _ ⟨A,rfl,hA⟩
  dsimp only[Sum.elim_inl]
  have hl:=YP B.l
  have hlt:(dW B.l).length<1000000000:=by omega
  have hj:=P1 (.mk A.l) [46] (by simp[A.len]) (by decide) (by show(EE [46] A.l).length<1000000000;rw[hA];exact hlt)
  rw[if_pos (by decide),List.drop_zero,List.take_of_length_le (by rw[A.len];exact Nat.le_refl _),hj,EI,hA]
  rfl
def WH:Nat→Nat→AH
 |0,_=>[]
 |k+1,n=>if n<16 then [hd n]else WH k (n/16)++[hd (n%16)]
def Sm(n:Nat):AH:=WH 5 n
theorem Zg: ∀(k n:Nat),n<16^(k+1)→WH (k+2) n=WH (k+1) n
 |0,n,h=>by
  have h:n<16:=by simpa using h
  simp[WH,h]
 |k+1,n,h=>by
  by_cases hn:n<16
  ·simp[WH,hn]
  ·have hd:n/16<16^(k+1):=by
    rw[Nat.div_lt_iff_lt_mul (by decide),←Nat.pow_succ];exact h
   have ih:=Zg k (n/16) hd
   rw[WH,if_neg hn,ih]
   conv=>rhs;rw[WH,if_neg hn]
theorem grp_eq{n:Nat}(h:n<65536):Sm n=if n<16 then [hd n]else Sm (n/16)++[hd (n%16)]:=by
 unfold Sm
 rw[Zg 3 (n/16) (by omega)]
 rfl
theorem fV: ∀(k n:Nat),(WH k n).length≤k
 |0,_=>by simp[WH]
 |k+1,n=>by
  rw[WH]
  split
  ·simp
  ·simp[fV k]
theorem oI(n:Nat):(Sm n).length≤5:=fV 5 n
theorem Km{m:Nat}(h:m<65536):(CV (m:Int)).toNat=m:=by
 show(UInt16.ofNat ((m:Int)%65536).toNat).toNat=m
 rw[show((m:Int)%65536).toNat=m by omega]
 simp[UInt16.toNat_ofNat,h]
theorem and15{x:Nat}(h:x<65536):F2 .and .u16 (x:Int) ((15:UInt16).toNat:Int)=((x%16:Nat):Int):=by
 have h1:(BitVec.ofInt 16 (x:Int)&&&BitVec.ofInt 16 ((15:UInt16).toNat:Int)).toNat=x%16:=by
  rw[BitVec.toNat_and]
  have e1:(BitVec.ofInt 16 (x:Int)).toNat=x:=by
   rw[BitVec.toNat_ofInt];omega
  have e2:(BitVec.ofInt 16 ((15:UInt16).toNat:Int)).toNat=2^4-1:=by decide
  rw[e1,e2,Nat.and_two_pow_sub_one_eq_mod]
 unfold F2
 show((BitVec.ofInt 16 (x:Int)&&&BitVec.ofInt 16 ((15:UInt16).toNat:Int)).toNat:Int)=_
 rw[h1]
theorem enc_hd: ∀k:Fin 16,rY ((hd k.1).toNat:Int)=[hd k.1]:=by decide+kernel
theorem shr16(x:UInt16): ∃y:UInt16,(if((4:UInt64).toNat:Int)<0 then none else some (CV (Int.fdiv (x.toNat:Int) (2^(min ((4:UInt64).toNat:Int).toNat 16)))))=some y∧y.toNat=x.toNat/16:=by
 refine⟨_,if_neg (by decide),?_⟩
 rw[show((2:Int)^(min ((4:UInt64).toNat:Int).toNat 16))=((16:Nat):Int)from rfl,←Int.ofNat_fdiv,Km]
 have:=x.toNat_lt;omega
theorem fQ(n:UInt16):Mx n=some (Sm n.toNat):=by
 unfold Mx
 refine IU (fun s=>s.1.toNat) (fun s=>s.2.length≤10∧s.2.length+(Sm s.1.toNat).length≤5∧Sm n.toNat=Sm s.1.toNat++s.2) (fun r=>r= .inr (Sm n.toNat)) ⟨by simp,by simpa using oI _,by simp⟩ ?_ ?_
 ·rintro⟨c,t⟩ ⟨h1,h2,h3⟩
  have hc:=c.toNat_lt
  dsimp only at h1 h2 h3 ⊢
  rw[and15 (by omega),Km (by omega),BF]
  have d:=Tv ⟨c.toNat%16,by omega⟩
  obtain⟨y,f1,f2⟩:=shr16 c
  have hx:((if(rY ((hd (c.toNat%16)).toNat:Int)).length+t.length≤2*Di then some (rY ((hd (c.toNat%16)).toNat:Int)++t)else none):Option AH)=some (hd (c.toNat%16)::t):=by
   rw[enc_hd ⟨c.toNat%16,by omega⟩,if_pos (by simp;unfold Di;omega)];rfl
  have hg:=grp_eq (n:=c.toNat) (by omega)
  by_cases hy:y.toNat=0
  ·right
   refine⟨.inr (Sm n.toNat),?_,rfl⟩
   refine(congrArg (fun x:Option UInt8=>x.bind _) d).trans ?_
   rw[Option.bind_some,hx,Option.bind_some,f1,Option.bind_some,if_pos (by rw[decide_eq_true_eq,hy];rfl)]
   rw[h3,hg,if_pos (by omega),Nat.mod_eq_of_lt (show c.toNat<16 by omega)]
   rfl
  ·left
   rw[if_neg (by omega)]at hg
   rw[hg,List.length_append,List.length_singleton,←f2]at h2
   refine⟨(y,hd (c.toNat%16)::t),?_,⟨by simp;omega,by simp;omega,?_⟩,by dsimp only;omega⟩
   ·refine(congrArg (fun x:Option UInt8=>x.bind _) d).trans ?_
    rw[Option.bind_some,hx,Option.bind_some,f1,Option.bind_some,if_neg (by rw[decide_eq_true_eq];intro h;exact hy (by simpa using h))]
   ·dsimp only;rw[h3,hg,f2];simp
 ·rintro _ rfl;rfl
def G16(B:List UInt8)(i:Nat):Nat:=256*((B[2*i]?).getD 0).toNat+((B[2*i+1]?).getD 0).toNat
theorem G16_lt(B:List UInt8)(i:Nat):G16 B i<65536:=by
 have h1:=((B[2*i]?).getD 0).toNat_lt
 have h2:=((B[2*i+1]?).getD 0).toNat_lt
 unfold G16;omega
theorem or8{x y:Nat}(hx:x<256)(hy:y<256):F2 .or .u64 ((256*x:Nat):Int) (y:Int)=((256*x+y:Nat):Int):=by
 show((BitVec.ofInt 64 ((256*x:Nat):Int)|||BitVec.ofInt 64 (y:Int)).toNat:Int)=_
 rw[BitVec.toNat_or]
 have e1:(BitVec.ofInt 64 ((256*x:Nat):Int)).toNat=256*x:=by rw[BitVec.toNat_ofInt];omega
 have e2:(BitVec.ofInt 64 (y:Int)).toNat=y:=by rw[BitVec.toNat_ofInt];omega
 rw[e1,e2,show 256*x=2^8*x from rfl,←Nat.two_pow_add_eq_or_of_lt hy]
theorem shl8(x:UInt64)(h:x.toNat<256): ∃y:UInt64,(if((8:UInt64).toNat:Int)<0 then none else some (CI ((x.toNat:Int)*2^(min ((8:UInt64).toNat:Int).toNat 64))))=some y∧y.toNat=256*x.toNat:=by
 refine⟨_,if_neg (by decide),?_⟩
 rw[show((2:Int)^(min ((8:UInt64).toNat:Int).toNat 64))=256 from rfl,show(x.toNat:Int)*256=((256*x.toNat:Nat):Int) by omega,G9 (by omega)]
theorem sized2(x y:UInt8):Lu (.mk [x,y])=some true:=by
 unfold Lu;rfl
end Go.Proofs.YtobejhpigbllpaaGreatDoor.Am
namespace Go.Proofs.YtobejhpigbllpaaGreatDoor.Am
theorem iO{n a b:Nat}(h:a≤b)(h':b≤n):PL n (some (a:Int)) (some (b:Int))=some (a,b):=by
 simp[PL,h,h']
theorem iN{n a:Nat}(h:a≤n):PL n (some (a:Int)) none=some (a,n):=by
 simp[PL,h]
theorem ofBig2(x y:UInt8): ∃v:UInt64,Lv (.mk [x,y])=some (v,0)∧v.toNat=256*x.toNat+y.toNat:=by
 have hx:=x.toNat_lt
 have hy:=y.toNat_lt
 obtain⟨z0,f0,g0⟩:=shl8 0 (by decide)
 have hx64:=G9 (m:=x.toNat) (by omega)
 have hy64:=G9 (m:=y.toNat) (by omega)
 have v1:(CI (F2 .or .u64 (z0.toNat:Int) ((CI (x.toNat:Int)).toNat:Int))).toNat=x.toNat:=by
  rw[hx64,g0,show(0:UInt64).toNat=0 from rfl,or8 (x:=0) (by decide) (by omega),Nat.mul_zero,Nat.zero_add,hx64]
 obtain⟨z1,f1,g1⟩:=shl8 (CI (F2 .or .u64 (z0.toNat:Int) ((CI (x.toNat:Int)).toNat:Int))) (by omega)
 rw[v1]at g1
 refine⟨CI (F2 .or .u64 (z1.toNat:Int) ((CI (y.toNat:Int)).toNat:Int)),?_,?_⟩
 ·unfold Lv
  rw[sized2,Option.bind_some,if_neg (by decide)]
  rw[BZ (s':=(CI (F2 .or .u64 (z0.toNat:Int) ((CI (x.toNat:Int)).toNat:Int)),1)),BZ (s':=(CI (F2 .or .u64 (z1.toNat:Int) ((CI (y.toNat:Int)).toNat:Int)),2)),Bs (b:= .inl (CI (F2 .or .u64 (z1.toNat:Int) ((CI (y.toNat:Int)).toNat:Int))))]
  ·rfl
  ·rfl
  ·dsimp only
   rw[if_pos (by simp),show DC (GS.mk [x,y]).l 1=some y from rfl,Option.bind_some,f1]
   rfl
  ·dsimp only
   rw[if_pos (by simp),show DC (GS.mk [x,y]).l 0=some x from rfl,Option.bind_some,f0]
   rfl
 ·rw[hy64,g1,or8 (by omega) (by omega),G9 (by omega)]
theorem two_of{l:List UInt8}{i:Nat}(h:2*i+1<l.length):(l.drop (2*i)).take (2*i+2-2*i)=[(l[2*i]?).getD 0,(l[2*i+1]?).getD 0]:=by
 rw[show 2*i+2-2*i=2 by omega,List.drop_eq_getElem_cons (show 2*i<l.length by omega),List.drop_eq_getElem_cons h,List.getElem?_eq_getElem (show 2*i<l.length by omega),List.getElem?_eq_getElem h]
 rfl
def vals(B:List UInt8):List Nat:=(List.range 8).map (G16 B)
theorem T9(B:Ar UInt8 16): ∃G:Ar UInt16 8,Lw B=some G∧G.l.map (·.toNat)=vals B.l:=by
 have hB:=B.len
 unfold Lw
 refine oB (fun s=>8-s.1.toNat) (fun s=> ∃i:Nat,s.1=i∧i≤8∧(s.2.l.take i).map (·.toNat)=(List.range i).map (G16 B.l)) (fun r=> ∃G:Ar UInt16 8,r= .inl G∧G.l.map (·.toNat)=vals B.l) ⟨0,rfl,by omega,rfl⟩ ?_ ?_
 ·rintro⟨s,A⟩ ⟨i,rfl,hi,hA⟩
  dsimp only at hA ⊢
  by_cases hlt:i<8
  ·left
   have w1:IntKind.i64.wrap (2*(i:Int))=((2*i:Nat):Int):=by rw[show 2*(i:Int)=((2*i:Nat):Int) by omega,Bu (by omega)]
   have w2:IntKind.i64.wrap (((2*i:Nat):Int)+2)=((2*i+2:Nat):Int):=by rw[show((2*i:Nat):Int)+2=((2*i+2:Nat):Int) by omega,Bu (by omega)]
   obtain⟨v,e,hv⟩:=ofBig2 ((B.l[2*i]?).getD 0) ((B.l[2*i+1]?).getD 0)
   have hg:=G16_lt B.l i
   have hv':v.toNat=G16 B.l i:=hv
   rw[if_pos (by rw[decide_eq_true_eq];omega),w1,w2,iO (by omega) (by omega),Option.bind_some]
   dsimp only
   rw[if_pos (by omega),two_of (by omega),e,Option.bind_some,E4 hlt,Option.bind_some,if_pos hlt,Option.bind_some]
   refine⟨_,rfl,⟨i+1,?_,by omega,?_⟩,?_⟩
   ·dsimp only;rw[show(i:Int)+1=((i+1:Nat):Int) by omega,Bu (by omega)]
   ·dsimp only
    have:((A.set i (CV (v.toNat:Int))).l.take (i+1))=A.l.take i++[CV (v.toNat:Int)]:=RM (by rw[A.len];exact hlt) rfl
    rw[this,List.map_append,hA,List.range_succ,List.map_append,List.map_singleton,List.map_singleton,Km (by omega),hv']
   ·dsimp only;rw[show(i:Int)+1=((i+1:Nat):Int) by omega,Bu (by omega)];omega
  ·right
   rw[if_neg (by rw[decide_eq_true_eq];omega)]
   refine⟨_,rfl,A,rfl,?_⟩
   obtain rfl:i=8:=by omega
   rw[List.take_of_length_le (by rw[A.len];omega)]at hA
   exact hA
 ·rintro _ ⟨G,rfl,hG⟩
  exact⟨G,rfl,hG⟩
def MN:List Bool→Nat→Nat→Nat→Nat→Nat×Nat
 |[],_,p,z,_=>(p,z)
 |b::l,i,p,z,w=>if b then(if z<w+1 then MN l (i+1) (i+1-(w+1)) (w+1) (w+1)else MN l (i+1) p z (w+1))else MN l (i+1) p z 0
def runL:List Bool→Nat
 |[]=>0
 |b::l=>if b then runL l+1 else 0
def runB(l:List Bool)(i:Nat):Nat:=runL (l.drop i)
def Aa3(l:List Bool):Nat→Nat→Nat→Nat→Nat×Nat
 |0,_,p,z=>(p,z)
 |k+1,i,p,z=>if z<runB l i then Aa3 l k (i+1) i (runB l i)else Aa3 l k (i+1) p z
theorem vF: ∀a b c d e f g h:Bool,MN [a,b,c,d,e,f,g,h] 0 0 0 0=Aa3 [a,b,c,d,e,f,g,h] 8 0 0 0∧(MN [a,b,c,d,e,f,g,h] 0 0 0 0).1+(MN [a,b,c,d,e,f,g,h] 0 0 0 0).2≤8:=by decide+kernel
theorem vG{l:List Bool}(h:l.length=8):MN l 0 0 0 0=Aa3 l 8 0 0 0∧(MN l 0 0 0 0).1+(MN l 0 0 0 0).2≤8:=by
 match l,h with
 |[a,b,c,d,e,f,g,h],_=>exact vF a b c d e f g h
def cS(l:List Nat):List Bool:=l.map fun n=>decide (n=0)
theorem eP(G:Ar UInt16 8):Kt G=some (((MN (cS (G.l.map (·.toNat))) 0 0 0 0).1:Int),((MN (cS (G.l.map (·.toNat))) 0 0 0 0).2:Int)):=by
 have hG:=G.len
 unfold Kt
 refine IU (fun s=>8-s.2.2.2.toNat) (fun s=> ∃p z w i:Nat,s=((p:Int),(z:Int),(w:Int),(i:Int))∧i≤8∧w≤i∧MN (cS (G.l.map (·.toNat))) 0 0 0 0=MN ((cS (G.l.map (·.toNat))).drop i) i p z w)
  (fun r=>r= .inl (((MN (cS (G.l.map (·.toNat))) 0 0 0 0).1:Int),((MN (cS (G.l.map (·.toNat))) 0 0 0 0).2:Int))) ⟨0,0,0,0,rfl,by omega,by omega,rfl⟩ ?_ ?_
 ·rintro _ ⟨p,z,w,i,rfl,hi,hw,he⟩
  dsimp only
  by_cases hlt:i<8
  ·left
   have hz:(cS (G.l.map (·.toNat))).drop i=decide (G.l[i].toNat=0)::(cS (G.l.map (·.toNat))).drop (i+1):=by
    rw[List.drop_eq_getElem_cons (by simp[cS];omega)];simp[cS]
   rw[hz,MN]at he
   rw[if_pos (by rw[decide_eq_true_eq];omega),BF,List.getElem?_eq_getElem (show i<G.l.length by omega),Option.bind_some]
   have w1:IntKind.i64.wrap ((i:Int)+1)=((i+1:Nat):Int):=by rw[show(i:Int)+1=((i+1:Nat):Int) by omega,Bu (by omega)]
   have w2:IntKind.i64.wrap ((w:Int)+1)=((w+1:Nat):Int):=by rw[show(w:Int)+1=((w+1:Nat):Int) by omega,Bu (by omega)]
   rw[w1,w2]
   by_cases h0:G.l[i].toNat=0
   ·rw[if_neg (by rw[h0];decide)]
    rw[if_pos (by simpa using h0)]at he
    by_cases h1:z<w+1
    ·rw[if_pos (by rw[decide_eq_true_eq];omega)]
     rw[if_pos h1]at he
     have w3:IntKind.i64.wrap (((i+1:Nat):Int)-((w+1:Nat):Int))=((i+1-(w+1):Nat):Int):=by rw[show((i+1:Nat):Int)-((w+1:Nat):Int)=((i+1-(w+1):Nat):Int) by omega,Bu (by omega)]
     rw[w3]
     exact⟨_,rfl,⟨_,_,_,_,rfl,by omega,by omega,he⟩,by dsimp only;omega⟩
    ·rw[if_neg (by rw[decide_eq_true_eq];omega)]
     rw[if_neg h1]at he
     exact⟨_,rfl,⟨_,_,_,_,rfl,by omega,by omega,he⟩,by dsimp only;omega⟩
   ·rw[if_pos (by rw[show((0:UInt16).toNat:Int)=0 from rfl];simp;omega)]
    rw[if_neg (by simpa using h0)]at he
    exact⟨_,rfl,⟨p,z,0,_,rfl,by omega,by omega,he⟩,by dsimp only;omega⟩
  ·right
   rw[if_neg (by rw[decide_eq_true_eq];omega)]
   obtain rfl:i=8:=by omega
   rw[List.drop_of_length_le (by simp[cS,hG])]at he
   exact⟨_,rfl,by rw[he];rfl⟩
 ·rintro _ rfl;rfl
def pT(l:List Nat):AH:=EE [58] (l.map Sm)
theorem Nm(l:List Nat):(pT l).length≤6*l.length:=by
 unfold pT
 rw[HX]
 have:=V3 (l:=l.map Sm) (n:=5) (fun x hx=>by obtain⟨b,_,rfl⟩:=List.mem_map.1 hx;exact oI _)
 simp at this ⊢
 omega
theorem MY(g:GS UInt16)(hg:g.l.length≤8):LI g=some (pT (g.l.map (·.toNat))):=by
 unfold LI
 refine IU (fun s=>g.l.length-s.1.toNat) (fun s=> ∃i:Nat,s.1=i∧i≤g.l.length∧s.2=NF ((g.l.take i).map fun x=>Sm x.toNat)) (fun r=>r= .inl (NF (g.l.map fun x=>Sm x.toNat))) ⟨0,rfl,by omega,rfl⟩ ?_ ?_
 ·rintro⟨s,t⟩ ⟨i,rfl,hi,rfl⟩
  dsimp only
  by_cases hlt:i<g.l.length
  ·left
   rw[if_pos (by rw[decide_eq_true_eq];omega),BF,List.getElem?_eq_getElem hlt,Option.bind_some,fQ,Option.bind_some,SE (by rw[LZ,List.length_map,List.length_take];unfold Di;omega),Option.bind_some]
   refine⟨_,rfl,⟨i+1,?_,by omega,?_⟩,?_⟩
   ·dsimp only;rw[show(i:Int)+1=((i+1:Nat):Int) by omega,Bu (by omega)]
   ·dsimp only;rw[LZ,List.take_succ_eq_append_getElem hlt,List.map_append,List.map_singleton,gB]
   ·dsimp only;rw[show(i:Int)+1=((i+1:Nat):Int) by omega,Bu (by omega)];omega
  ·right
   rw[if_neg (by rw[decide_eq_true_eq];omega)]
   exact⟨_,rfl,by rw[List.take_of_length_le (by omega)]⟩
 ·rintro _ rfl
  dsimp only[Sum.elim_inl]
  have hl:=Nm (g.l.map (·.toNat))
  have he:(NF (g.l.map fun x=>Sm x.toNat)).l=(g.l.map (·.toNat)).map Sm:=by rw[LZ,List.map_map];rfl
  rw[List.length_map]at hl
  have hj:=P1 (NF (g.l.map fun x=>Sm x.toNat)) [58] (by rw[he];simp;omega) (by decide) (by rw[he];exact Nat.lt_of_le_of_lt hl (by omega))
  rw[hj,he];rfl
def xH(B:List UInt8):AH:=
 let v:=vals B
 let q:=MN (cS v) 0 0 0 0
 if q.2<2 then pT v else pT (v.take q.1)++[58,58]++pT (v.drop (q.1+q.2))
theorem Ni(B:List UInt8):(vals B).length=8:=by simp[vals]
theorem xG(B:List UInt8):(xH B).length≤100:=by
 unfold xH
 dsimp only
 split
 ·have:=Nm (vals B);rw[Ni]at this;omega
 ·rename_i h
  have h1:=Nm ((vals B).take (MN (cS (vals B)) 0 0 0 0).1)
  have h2:=Nm ((vals B).drop ((MN (cS (vals B)) 0 0 0 0).1+(MN (cS (vals B)) 0 0 0 0).2))
  rw[List.length_take,Ni]at h1
  rw[List.length_drop,Ni]at h2
  simp only[List.length_append,List.length_cons,List.length_nil]
  omega
theorem mJ(B:Ar UInt8 16):Om B=some (xH B.l):=by
 obtain⟨G,e1,hG⟩:=T9 B
 have hGl:=G.len
 have e2:=eP G
 rw[hG]at e2
 obtain⟨_,hq⟩:=vG (l:=cS (vals B.l)) (by simp[cS,Ni])
 unfold Om xH
 rw[e1,Option.bind_some,e2,Option.bind_some]
 dsimp only
 generalize MN (cS (vals B.l)) 0 0 0 0=q at*
 obtain⟨p,z⟩:=q
 dsimp only at*
 by_cases h:z<2
 ·rw[if_pos (by rw[decide_eq_true_eq];omega),if_pos h,if_pos (by decide),List.drop_zero,List.take_of_length_le (by omega),MY _ (by simp;omega),EI,hG]
  rfl
 ·have hr1:=MY (.mk (G.l.take p)) (by simp;omega)
  have hr2:=MY (.mk (G.l.drop (p+z))) (by simp;omega)
  rw[EI,List.map_take,hG]at hr1
  rw[EI,List.map_drop,hG]at hr2
  have l1:=Nm ((vals B.l).take p)
  have l2:=Nm ((vals B.l).drop (p+z))
  rw[List.length_take,Ni]at l1
  rw[List.length_drop,Ni]at l2
  rw[if_neg (by rw[decide_eq_true_eq];omega),if_neg h,mN (by omega),Option.bind_some,if_pos (by omega),List.drop_zero,hr1,Option.bind_some,if_pos (by simp;unfold Di;omega),Option.bind_some,
   show(p:Int)+(z:Int)=((p+z:Nat):Int) by omega,Bu (by omega),iN (by omega),Option.bind_some]
  dsimp only
  rw[if_pos (by omega),List.take_of_length_le (by rw[List.length_drop];omega),hr2,Option.bind_some,if_pos (by simp;unfold Di;omega)]
  rfl
end Go.Proofs.YtobejhpigbllpaaGreatDoor.Am
namespace Go.Proofs.YtobejhpigbllpaaGreatDoor.Am
abbrev zK:Ar UInt8 32:=(T.arr 32 T.u8).z
def Z2(a:Bf):AH:=if In a=true then(if a.V=4 then dW (a.B.l.take 4)else xH a.B.l)else []
theorem Z1(a:Bf):(Z2 a).length≤100:=by
 unfold Z2
 split
 ·split
  ·have:=YP (a.B.l.take 4);rw[List.length_take]at this;omega
  ·exact xG _
 ·simp
theorem jY{a:Bf}(h:In a=true)(h4: ¬a.V=4):a.V=6:=by
 unfold In at h
 rw[decide_eq_true_eq]at h
 rcases h with h|h
 ·exact h
 ·exact absurd h.1 h4
theorem sI(a:Bf):NC a=some (Z2 a):=by
 unfold NC Z2
 rw[R7,Option.bind_some]
 by_cases h:In a=true
 ·rw[h,if_neg (by decide),if_pos rfl]
  by_cases h4:a.V=4
  ·rw[if_pos (by rw[decide_eq_true_eq];exact h4),if_pos h4]
   exact congrArg (fun x:Option AH=>x.bind fun y=>some y) (qD _)
  ·rw[if_neg (by rw[decide_eq_true_eq];exact h4),if_neg h4,mJ];rfl
 ·rw[if_neg h]
  have h':In a=false:=by simpa using h
  rw[h',if_pos (by decide)]
def Sf(e:AI):AH:=if JV e=true then(if e.A.V=6 then [91]++Z2 e.A++[93,58]++Q7 e.Port.toNat else Z2 e.A++[58]++Q7 e.Port.toNat)else []
theorem rI(e:AI):(Sf e).length≤130:=by
 have h1:=Z1 e.A
 have h2:=Sw e.Port.toNat
 unfold Sf
 split
 ·split<;>simp<;>omega
 ·simp
theorem dS{e:AI}(h:JV e=true):In e.A=true∧1≤e.Port∧e.Port≤65535:=by
 unfold JV at h
 simpa [Bool.and_eq_true]using h
theorem eG{p:Int}(h:0≤p)(h':p<18446744073709551616):(CI p).toNat=p.toNat:=by
 have:=G9 (m:=p.toNat) (by omega)
 rwa [Int.toNat_of_nonneg h]at this
theorem rH(e:AI):Kq e=some (Sf e):=by
 unfold Kq Sf
 have hl:=Z1 e.A
 have hd:=Sw e.Port.toNat
 rw[Ro,Option.bind_some]
 by_cases h:JV e=true
 ·obtain⟨hA,p1,p2⟩:=dS h
  have hp:FO (CI e.Port)=some (Q7 e.Port.toNat):=by rw[Ok,eG (by omega) (by omega)]
  rw[h,if_neg (by decide),if_pos rfl,hp,Option.bind_some,mV,Option.bind_some,sI]
  have hw:(32:Int)<(ZA e.A:Int)↔e.A.V=6:=by
   unfold ZA
   rw[if_pos hA]
   by_cases h4:e.A.V=4
   ·rw[if_pos h4];omega
   ·rw[if_neg h4];have:=jY hA h4;omega
  by_cases h6:e.A.V=6
  ·rw[if_pos (by rw[decide_eq_true_eq];exact hw.2 h6),if_pos h6,Option.bind_some,if_pos (by simp;unfold Di;omega),Option.bind_some,if_pos (by simp;unfold Di;omega),Option.bind_some,if_pos (by simp;unfold Di;omega)]
   rfl
  ·rw[if_neg (by rw[decide_eq_true_eq];exact fun g=>h6 (hw.1 g)),if_neg h6,Option.bind_some,if_pos (by simp;unfold Di;omega),Option.bind_some,if_pos (by simp;unfold Di;omega)]
   rfl
 ·rw[if_neg h]
  have h':JV e=false:=by simpa using h
  rw[h',if_pos (by decide)]
end Go.Proofs.YtobejhpigbllpaaGreatDoor.Am
namespace Go.Proofs.YtobejhpigbllpaaGreatDoor.Am
def MR(c:UInt8):Bool:=decide (48≤c.toNat∧c.toNat≤57)
def Ln(n:Nat)(s:AH):Nat:=s.foldl (fun n c=>10*n+(c.toNat-48)) n
def Dn(s:AH)(m:Nat):Nat×Int:=
 if s=[]∨s.all MR=false∨(1<s.length∧s[0]? =some 48)then(0,5)else if m<Ln 0 s then(0,6)else(Ln 0 s,0)
def IL(c:UInt8):Option Nat:=if 48≤c.toNat∧c.toNat≤57 then some (c.toNat-48)else if 97≤c.toNat∧c.toNat≤102 then some (c.toNat-87)else none
def MT:AH→Option (List UInt8)
 |[]=>some []
 |[_]=>none
 |a::b::l=>(IL a).bind fun x=>(IL b).bind fun y=>(MT l).map fun r=>UInt8.ofNat (16*x+y)::r
def mT(l:List UInt8):Ar UInt8 32:=if h:l.length=32 then⟨l,h⟩else zK
def Nv(v:AH):Ar UInt8 32×Int:=match MT v with
 |none=>(zK,5)
 |some l=>if l.length<32 then(zK,3)else if 32<l.length then(zK,4)else(mT l,0)
def Tl(c:UInt8):UInt8:=if 65≤c.toNat∧c.toNat≤70 then UInt8.ofNat (c.toNat+32)else c
def V0(n:Nat):AH→Option Nat
 |[]=>some n
 |c::l=>(IL (Tl c)).bind fun v=>V0 (16*n+v) l
def VY(s:AH):Option Nat:=if 1≤s.length∧s.length≤4 then V0 0 s else none
def Mk:List AH→Int
 |[]=>0
 |x::l=>if(Dn x 255).2=0 then Mk l else(Dn x 255).2
def zero4:List UInt8:=[0,0,0,0]
def Du(s:AH):List UInt8×Int:=
 if(AL 46 s).length=4 then(if Mk (AL 46 s)=0 then((AL 46 s).map fun x=>UInt8.ofNat (Dn x 255).1,0)else(zero4,Mk (AL 46 s)))else(zero4,5)
def Ip:AH→Option (AH×AH)
 |[]=>none
 |[_]=>none
 |a::b::r=>if a=58∧b=58 then some ([],r)else(Ip (b::r)).map fun p=>(a::p.1,p.2)
def DI(last:Bool):List AH→Option (List Nat)
 |[]=>some []
 |x::r=>match VY x with
  |some n=>(DI last r).map fun l=>n::l
  |none=>if r=[]∧last=true∧(Du x).2=0 then some [256*((Du x).1.getD 0 0).toNat+((Du x).1.getD 1 0).toNat,256*((Du x).1.getD 2 0).toNat+((Du x).1.getD 3 0).toNat]else none
def Jm(last:Bool)(s:AH):Option (List Nat):=if s=[]then some []else DI last (AL 58 s)
def TF(l:List Nat):List UInt8:=l.flatMap fun n=>[UInt8.ofNat (n/256),UInt8.ofNat (n%256)]
def bX(s:AH):Option (List UInt8):=
 match Ip s with
 |none=>(Jm true s).bind fun l=>if l.length=8 then some (TF l)else none
 |some (a,b)=>(Jm false a).bind fun l=>(Jm true b).bind fun m=>if l.length+m.length≤7 then some (TF (l++List.replicate (8-l.length-m.length) 0++m))else none
def Flat(s:AH):Prop:=Ip s=none∧ ∀m,s≠m++[58]
theorem Zh: ∀{s:AH},(58:UInt8)∉s→Flat s
 |[],_=>⟨rfl,fun m e=>by simp at e⟩
 |[a],h=>⟨rfl,fun m e=>by
   rcases List.append_eq_singleton_iff.1 e.symm with ⟨_,e⟩|⟨_,e⟩
   ·exact h (by rw[List.cons.inj e |>.1];simp)
   ·cases e⟩
 |a::b::s,h=>by
  have ih:=Zh (s:=b::s) (fun x=>h (List.mem_cons_of_mem _ x))
  refine⟨?_,fun m e=> ?_⟩
  ·rw[Ip,if_neg (fun e=>h (by simp[e.1])),ih.1];rfl
  ·exact h (by rw[e];simp)
def Ve(l:List UInt8):Ar UInt8 16:=if h:l.length=16 then⟨l,h⟩else⟨List.replicate 16 0,rfl⟩
def zA:Bf:=⟨0,⟨List.replicate 16 0,rfl⟩⟩
def Lm(s:AH):Bf×Int:=
 if(58:UInt8)∈s then(match bX s with|some l=>(⟨6,Ve l⟩,0)|none=>(zA,5))
 else if(Du s).2=0 then(⟨4,Ve ((Du s).1++List.replicate 12 0)⟩,0)else(zA,(Du s).2)
def Y2(c:UInt8)(s:AH):AH×AH×Bool:=if c∈s then(s.takeWhile (fun x=>x != c),(s.dropWhile (fun x=>x != c)).drop 1,true)else(s,[],false)
theorem iD{c:UInt8}{p q:AH}(h:c∉p):Y2 c (p++c::q)=(p,q,true):=by
 unfold Y2
 have h1: ∀x∈p,(x != c)=true:=fun x hx=>by simp;rintro rfl;exact h hx
 rw[if_pos (by simp),List.takeWhile_append_of_pos h1,List.dropWhile_append_of_pos h1]
 simp
def Q8:AH→Option (AH×AH)
 |[]=>none
 |[_]=>none
 |a::b::r=>if a=93∧b=58 then some ([],r)else(Q8 (b::r)).map fun p=>(a::p.1,p.2)
def WG(s:AH):Option (AH×AH):=
 if s.head?=some 91 then(Q8 (s.drop 1)).bind fun p=>if(58:UInt8)∈p.1 then some p else none
 else if(58:UInt8)∈s then some ((Y2 58 s).1,(Y2 58 s).2.1)else none
def CW:AI:=⟨zA,0⟩
def G0(s:AH):AI×Int:=
 match WG s with
 |none=>(CW,5)
 |some (h,p)=>if(Lm h).2=0 then(if(Dn p 65535).2=0 then(if(Dn p 65535).1=0 then(CW,6)else(⟨(Lm h).1,(Dn p 65535).1⟩,0))else(CW,(Dn p 65535).2))else(CW,(Lm h).2)
end Go.Proofs.YtobejhpigbllpaaGreatDoor.Am
namespace Go.Proofs.YtobejhpigbllpaaGreatDoor.Am
theorem SM(n:Nat)(c:UInt8)(s:AH):Ln n (c::s)=Ln (10*n+(c.toNat-48)) s:=by unfold Ln;rw[List.foldl_cons]
theorem nK(s:AH): ∀n:Nat,n≤Ln n s:=by
 induction s with
 |nil=>exact fun n=>Nat.le_refl n
 |cons c s ih=>
  intro n
  have h:=ih (10*n+(c.toNat-48))
  rw[SM]
  exact Nat.le_trans (by omega) h
theorem Wh(M:Nat)(hM:M=18446744073709551615): ∀(s:AH) (n:Nat),n≤M→s.all MR=true→Lib.parseUintM M n s=if M<Ln n s then .range else .ok (Ln n s)
 |[],n,hn,_=>by
  rw[Lib.parseUintM,show Ln n []=n from rfl,if_neg (by omega)]
 |c::s,n,hn,h=>by
  simp only[List.all_cons,Bool.and_eq_true]at h
  have hc:48≤c.toNat∧c.toNat≤57:=by simpa [MR]using h.1
  have hg:=nK s (10*n+(c.toNat-48))
  rw[Lib.parseUintM,if_pos hc,SM]
  by_cases h1:1844674407370955162≤n
  ·rw[if_pos h1,if_pos (by omega)]
  ·rw[if_neg h1]
   by_cases h2:M<n*10+(c.toNat-48)
   ·rw[if_pos h2,if_pos (by omega)]
   ·rw[if_neg h2,show n*10+(c.toNat-48)=10*n+(c.toNat-48) by omega,Wh M hM s _ (by omega) h.2]
theorem kK{s:AH}(h0:s≠[])(h:s.all MR=true):Gi s=if 18446744073709551615<Ln 0 s then(18446744073709551615,true)else(Ln 0 s,false):=by
 unfold Gi Lib.parseUintB
 rw[if_neg h0,Wh _ (by decide) s 0 (Nat.zero_le _) h]
 have e:(2^64-1:Nat)=18446744073709551615:=by decide
 rw[e]
 by_cases hv:18446744073709551615<Ln 0 s
 ·rw[if_pos hv,if_pos hv]
 ·rw[if_neg hv,if_neg hv]
theorem QV{s:AH}{i:Nat}(h:i<s.length):(s.take (i+1)).all MR=((s.take i).all MR&&MR s[i]):=by
 rw[List.take_succ_eq_append_getElem h,List.all_append];simp
theorem mH(s:AH)(hl:s.length<4611686018427387904): ∃k:Nat,J0 s=some (k:Int)∧k≤s.length∧(k<s.length↔s.all MR=false):=by
 unfold J0
 obtain⟨r,e,hr⟩: ∃r:Unit⊕Int,iter (fun(s1:Nat)=>if s1<s.length then
   let x3:=Hq s s1
   (JJ (decide (x3.1<48)) (some (decide (57<x3.1)))).bind fun x8=>if x8=true then(some ((s1:Nat):Int)).map fun r=> .inr (.inr r)else some (.inl (s1+x3.2))
   else some (.inr (.inl ()))) 0=some r∧((r= .inl ()∧s.all MR=true)∨ ∃k:Nat,r= .inr (k:Int)∧k<s.length∧s.all MR=false):=by
  refine Se (fun n=>s.length-n) (fun n=>n≤s.length∧(s.take n).all MR=true) _ ?_ ⟨Nat.zero_le _,rfl⟩
  rintro n ⟨h1,h2⟩
  dsimp only
  by_cases hn:n<s.length
  ·rw[if_pos hn]
   have bad:MR s[n]=false→s.all MR=false:=fun hb=>by
    cases ha:s.all MR with
    |false=>rfl
    |true=>rw[List.all_eq_true.1 ha _ (List.getElem_mem hn)]at hb;cases hb
   rcases jU s n hn with ⟨hb,e⟩|⟨hb,h128,h3,_⟩
   ·rw[e]
    dsimp only
    by_cases hd:MR s[n]=true
    ·have:48≤s[n].toNat∧s[n].toNat≤57:=by simpa [MR]using hd
     have e1:decide ((s[n].toNat:Int)<48)=false:=decide_eq_false (by omega)
     have e2:decide ((57:Int)<(s[n].toNat:Int))=false:=decide_eq_false (by omega)
     rw[e1,e2]
     simp only[JJ,Bool.false_eq_true,if_false,Option.bind_some]
     exact .inl ⟨_,rfl,⟨by omega,by rw[QV hn,h2,hd];rfl⟩,by omega⟩
    ·have hd':MR s[n]=false:=by simpa using hd
     right
     refine⟨.inr (n:Int),?_, .inr ⟨n,rfl,hn,bad hd'⟩⟩
     by_cases h48:s[n].toNat<48
     ·have e1:decide ((s[n].toNat:Int)<48)=true:=decide_eq_true (by omega)
      rw[e1];rfl
     ·have e1:decide ((s[n].toNat:Int)<48)=false:=decide_eq_false (by omega)
      have e2:decide ((57:Int)<(s[n].toNat:Int))=true:=decide_eq_true (by
       have: ¬(48≤s[n].toNat∧s[n].toNat≤57):=by simpa [MR]using hd'
       omega)
      rw[e1,e2];rfl
   ·right
    have hd':MR s[n]=false:=by
     have: ¬(48≤s[n].toNat∧s[n].toNat≤57):=by omega
     simpa [MR]using this
    refine⟨.inr (n:Int),?_, .inr ⟨n,rfl,hn,bad hd'⟩⟩
    have e1:decide ((Hq s n).1<48)=false:=decide_eq_false (by omega)
    have e2:decide ((57:Int)<(Hq s n).1)=true:=decide_eq_true (by omega)
    rw[e1,e2];rfl
  ·rw[if_neg hn]
   exact .inr ⟨_,rfl, .inl ⟨rfl,by rw[List.take_of_length_le (by omega)]at h2;exact h2⟩⟩
 rcases hr with ⟨rfl,ha⟩|⟨k,rfl,hk,ha⟩
 ·exact⟨s.length,(congrArg (fun x:Option (Unit⊕Int)=>x.bind _) e).trans rfl,Nat.le_refl _,by simp[ha]⟩
 ·exact⟨k,(congrArg (fun x:Option (Unit⊕Int)=>x.bind _) e).trans rfl,by omega,by simp[ha,hk]⟩
def Xe(s:AH)(m:UInt64):UInt64×Int:=(UInt64.ofNat (Dn s m.toNat).1,(Dn s m.toNat).2)
theorem rN{s:AH}(h:1<s.length): ∃c,DC s 0=some c∧s[0]? =some c:=by
 cases s with
 |nil=>simp at h
 |cons c r=>exact⟨c,rfl,rfl⟩
theorem eW{γ:Type}{s:AH}{K:Bool→Option γ}:((Cg (decide (1<(s.length:Int))) ((DC s 0).bind fun x8=>let x9:=decide ((x8.toNat:Int)=((48:UInt8).toNat:Int));some x9)).bind K)=K (decide (1<s.length∧s[0]? =some 48)):=by
 by_cases h:1<s.length
 ·obtain⟨c,h1,h2⟩:=rN h
  rw[show decide ((1:Int)<(s.length:Int))=true from decide_eq_true (by omega),h1,h2]
  have:decide ((c.toNat:Int)=((48:UInt8).toNat:Int))=decide (1<s.length∧some c=some (48:UInt8)):=by
   by_cases hc:c=48
   ·subst hc;simp[h]
   ·rw[decide_eq_false,decide_eq_false]
    ·rintro⟨_,e⟩;exact hc (Option.some.inj e)
    ·intro e;exact hc (UInt8.toNat_inj.1 (by omega))
  simp only[Cg,Option.bind_some,if_true]
  rw[this]
 ·rw[show decide ((1:Int)<(s.length:Int))=false from decide_eq_false (by omega),show decide (1<s.length∧s[0]? =some 48)=false from decide_eq_false fun e=>h e.1]
  rfl
theorem N6{s:AH}{m:Nat}(h:s=[]∨s.all MR=false∨(1<s.length∧s[0]? =some 48)):Dn s m=(0,5):=if_pos h
theorem Zq{s:AH}{m:Nat}(h: ¬(s=[]∨s.all MR=false∨(1<s.length∧s[0]? =some 48))):Dn s m=if m<Ln 0 s then(0,6)else(Ln 0 s,0):=if_neg h
theorem J1{s:AH}{m:UInt64}{n:Nat}{e:Int}(h:Dn s m.toNat=(n,e)):Xe s m=(UInt64.ofNat n,e):=by unfold Xe;rw[h]
theorem Ol(s:AH)(m:UInt64)(hl:s.length<1073741824):GN s m=some (Xe s m):=by
 obtain⟨k,hk,hkl,hka⟩:=mH s (by omega)
 have hm:=m.toNat_lt
 unfold GN
 by_cases h0:s=[]
 ·rw[J1 (N6 (.inl h0)),show decide (s=[])=true from decide_eq_true h0]
  rfl
 ·rw[show decide (s=[])=false from decide_eq_false h0,hk]
  simp only[JJ,Option.bind_some,Bool.false_eq_true,if_false]
  by_cases ha:s.all MR=true
  ·rw[show decide ((k:Int)<(s.length:Int))=false from decide_eq_false (fun hlt=>by have:=hka.1 (by omega);rw[ha]at this;cases this)]
   simp only[Bool.false_eq_true,if_false]
   refine(congrArg (fun x:Option Bool=>x.bind _) (eW (K:=some) (s:=s))).trans ?_
   rw[Option.bind_some]
   by_cases hz:1<s.length∧s[0]? =some 48
   ·rw[J1 (N6 (.inr (.inr hz))),if_pos (decide_eq_true hz)];rfl
   ·have hg: ¬(s=[]∨s.all MR=false∨(1<s.length∧s[0]? =some 48)):=fun h=>h.elim h0 fun h=>h.elim (fun h=>by rw[ha]at h;cases h) hz
    rw[if_neg (by rw[decide_eq_false hz];decide)]
    have hp:Hw s 10 64=some (UInt64.ofNat (Gi s).1,(Gi s).2):=by
     unfold Hw aC
     rw[if_pos ⟨rfl,rfl,by unfold Di;omega⟩]
    rw[hp,Option.bind_some,kK h0 ha]
    have hd:=Zq (m:=m.toNat) hg
    by_cases hv:18446744073709551615<Ln 0 s
    ·rw[if_pos (by omega)]at hd
     rw[J1 hd,if_pos hv];rfl
    ·rw[if_neg hv]
     have e:(UInt64.ofNat (Ln 0 s)).toNat=Ln 0 s:=by rw[UInt64.toNat_ofNat'];omega
     dsimp only
     rw[e]
     by_cases hmv:m.toNat<Ln 0 s
     ·rw[if_pos hmv]at hd
      rw[J1 hd,show decide ((m.toNat:Int)<(Ln 0 s:Int))=true from decide_eq_true (by omega)];rfl
     ·rw[if_neg hmv]at hd
      rw[J1 hd,show decide ((m.toNat:Int)<(Ln 0 s:Int))=false from decide_eq_false (by omega)];rfl
  ·have ha':s.all MR=false:=by simpa using ha
   rw[J1 (N6 (.inr (.inl ha'))),show decide ((k:Int)<(s.length:Int))=true from decide_eq_true (by have:=hka.2 ha';omega)]
   rfl
theorem UR: ∀k:Fin 256,HI (UInt8.ofNat k.1)=some (match IL (UInt8.ofNat k.1)with|some v=>(UInt16.ofNat v,true)|none=>(65535,false)):=by decide+kernel
theorem Si{c:UInt8}{v:Nat}(h:IL c=some v):v<16:=by
 unfold IL at h
 split at h
 ·cases h;omega
 ·split at h
  ·cases h;omega
  ·cases h
theorem LX(c:UInt8):HI c=some (match IL c with|some v=>(UInt16.ofNat v,true)|none=>(65535,false)):=by
 have:=UR ⟨c.toNat,c.toNat_lt⟩
 simpa using this
theorem or16: ∀x y:Fin 16,((if((4:UInt64).toNat:Int)<0 then none else some (CV (((UInt16.ofNat x.1).toNat:Int)*2^(min ((4:UInt64).toNat:Int).toNat 16)))).map fun z=>HF ((CV (F2 .or .u16 (z.toNat:Int) ((UInt16.ofNat y.1).toNat:Int))).toNat:Int))=some (UInt8.ofNat (16*x.1+y.1)):=by decide+kernel
theorem rL{s:AH}{k:Nat}{a b:UInt8}(h:2*k+1<s.length)(ha:s[2*k]? =some a)(hb:s[2*k+1]? =some b):s.drop (2*k)=a::b::s.drop (2*(k+1)):=by
 rw[List.drop_eq_getElem_cons (by omega),List.drop_eq_getElem_cons (by omega)]
 rw[List.getElem?_eq_getElem (by omega),Option.some.injEq]at ha hb
 rw[ha,hb]
 rfl
theorem fR(s:AH)(hl:s.length<1073741824)(he:s.length%2=0){F:Int×GS UInt8→Option ((Int×GS UInt8)⊕(GS UInt8⊕(GS UInt8×Int)))}
  (h1: ∀(k:Nat) (g:GS UInt8) (a b:UInt8),2*k+1<s.length→s[2*k]? =some a→s[2*k+1]? =some b→F (((2*k:Nat):Int),g)=(match IL a,IL b with|some x,some y=>(Ng 1 g [UInt8.ofNat (16*x+y)]).map fun g'=> .inl (((2*k+2:Nat):Int),g')|_,_=>some (.inr (.inr (.nil,5)))))
  (h2: ∀g,F ((s.length:Int),g)=some (.inr (.inl g))):
  (iter F (0, .nil)).bind (Sum.elim (fun p5=>some (p5,(0:Int))) some)=some (match MT s with|none=>(.nil,5)|some l=>(NF l,0)):=by
 have key: ∀n k (pre:List UInt8),s.length=2*k+2*n→pre.length=k→iter F (((2*k:Nat):Int),NF pre)=some (match MT (s.drop (2*k))with|none=> .inr (.nil,5)|some l=> .inl (NF (pre++l))):=by
  intro n
  induction n with
  |zero=>
   intro k pre hk hp
   rw[Bs (b:= .inl (NF pre)) (by rw[show 2*k=s.length by omega];exact h2 _),List.drop_of_length_le (by omega)]
   simp[MT]
  |succ n ih=>
   intro k pre hk hp
   obtain⟨a,ha⟩: ∃a,s[2*k]? =some a:=⟨_,List.getElem?_eq_getElem (by omega)⟩
   obtain⟨b,hb⟩: ∃b,s[2*k+1]? =some b:=⟨_,List.getElem?_eq_getElem (by omega)⟩
   have hs:=h1 k (NF pre) a b (by omega) ha hb
   rw[rL (by omega) ha hb]
   cases ea:IL a with
   |none=>
    rw[ea]at hs
    rw[Bs hs]
    simp[MT,ea]
   |some x=>
    cases eb:IL b with
    |none=>
     rw[ea,eb]at hs
     rw[Bs hs]
     simp[MT,ea,eb]
    |some y=>
     rw[ea,eb]at hs
     dsimp only at hs
     rw[SE (by rw[LZ];unfold Di;omega),LZ,←gB,Option.map_some]at hs
     rw[BZ hs,show 2*k+2=2*(k+1) by omega,ih (k+1) _ (by omega) (by simp[hp])]
     simp only[MT,ea,eb,Option.bind_some]
     cases MT (s.drop (2*(k+1)))<;>simp
 have h0:=key (s.length/2) 0 [] (by omega) rfl
 refine(congrArg (fun x:Option (GS UInt8⊕(GS UInt8×Int))=>x.bind (Sum.elim (fun p5=>some (p5,(0:Int))) some)) h0).trans ?_
 rw[Nat.mul_zero,List.drop_zero]
 cases MT s<;>simp
theorem WF: ∀{s:AH},s.length%2=1→MT s=none
 |[],h=>by simp at h
 |[_],_=>rfl
 |a::b::s,h=>by
  rw[MT,WF (s:=s) (by simp at h;omega)]
  cases IL a<;>cases IL b<;>rfl
def aZ(s:AH):GS UInt8×Int:=match MT s with|none=>(.nil,5)|some l=>(NF l,0)
theorem tm2N(n:Nat):(if(2:Int)=0 then none else some (Int.tmod (n:Int) 2))=some ((n%2:Nat):Int):=by
 rw[if_neg (by decide)];rfl
theorem Sh(s:AH)(hl:s.length<1073741824):Jr s=some (aZ s):=by
 unfold Jr
 refine(congrArg (fun x:Option Int=>x.bind _) (tm2N s.length)).trans ?_
 rw[Option.bind_some]
 by_cases he:s.length%2=0
 ·rw[if_neg (by rw[he];decide)]
  refine fR s hl he ?_ ?_
  ·intro k g a b hk ha hb
   dsimp only
   rw[if_pos (by rw[decide_eq_true_eq];omega),BF,ha,Option.bind_some,LX,Option.bind_some,show((2*k:Nat):Int)+1=((2*k+1:Nat):Int) by omega,Bu (by omega),BF,hb,Option.bind_some,LX,Option.bind_some]
   cases ea:IL a with
   |none=>rfl
   |some x=>
    cases eb:IL b with
    |none=>rfl
    |some y=>
     have hx:=Si ea
     have hy:=Si eb
     have ho:=or16 ⟨x,hx⟩ ⟨y,hy⟩
     simp only[JJ,Bool.not_true,Bool.false_eq_true,if_false,Option.bind_some]
     obtain⟨z,hz,hz2⟩:=Option.map_eq_some_iff.1 ho
     refine(congrArg (fun q:Option UInt16=>q.bind _) hz).trans ?_
     rw[Option.bind_some,hz2,show((2*k:Nat):Int)+2=((2*k+2:Nat):Int) by omega,Bu (by omega)]
     cases Ng 1 g [UInt8.ofNat (16*x+y)]<;>rfl
  ·intro g
   dsimp only
   rw[if_neg (by simp)]
 ·have ho:s.length%2=1:=by omega
  rw[if_pos (by rw[ho];decide)]
  unfold aZ
  rw[WF ho]
theorem Aa7(g:GS UInt8):Vo g=some (if g.l.length<32 then(zK,3)else if 32<g.l.length then(zK,4)else(mT g.l,0)):=by
 unfold Vo
 by_cases h1:g.l.length<32
 ·rw[if_pos (by rw[decide_eq_true_eq];omega),if_pos h1];rfl
 ·rw[if_neg (by rw[decide_eq_true_eq];omega),if_neg h1]
  by_cases h2:32<g.l.length
  ·rw[if_pos (by rw[decide_eq_true_eq];omega),if_pos h2];rfl
  ·rw[if_neg (by rw[decide_eq_true_eq];omega),if_neg h2]
   have h3:g.l.length=32:=by omega
   have:YC 32 g=some (mT g.l):=by
    unfold YC mT
    rw[dif_pos (by omega),dif_pos h3]
    congr 2
    exact List.take_of_length_le (by omega)
   rw[this];rfl
theorem QM(s:AH)(hl:s.length<1073741824):Ix s=some (Nv s):=by
 unfold Ix Nv
 rw[Sh s hl,Option.bind_some]
 unfold aZ
 cases h:MT s with
 |none=>rfl
 |some l=>
  rw[if_neg (by show¬(!decide ((0:Int)=0))=true;decide),Aa7]
  show(some (if(NF l).l.length<32 then(zK,(3:Int))else if 32<(NF l).l.length then(zK,4)else(mT (NF l).l,0))).bind _=_
  rw[LZ]
  rfl
end Go.Proofs.YtobejhpigbllpaaGreatDoor.Am
