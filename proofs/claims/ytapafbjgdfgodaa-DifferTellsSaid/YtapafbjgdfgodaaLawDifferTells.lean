/-
  PROVED: for every input of crawlway/crawlwaylaw35.DifferTells the call returns true, and its arguments read afterwards as they read before. Printed by mkrow.py. Its conditions: those of the given row differTellsRow, no others.
-/
import Derived.Test.YtapafbjgdfgodaaRows
import Derived.ProofKit
import Derived.KernelRfl
import Derived.Test.YtapafbjgdfgodaaX4
set_option maxRecDepth 100000
set_option linter.unusedVariables false
namespace Go.Proofs.Ytapafbjgdfgodaa.Am
open Go.ChangeShapes Go.WideShapes Go.ChangeAt Go.RowKit Go.Proofs
theorem XK:BX Try.prog 39 Ao (fun(y:A9)=>(fun x=>IntKind.i64.has x) y.V∧(fun(g:(Ar UInt8 16))=> ∀x∈g.l,(fun _=>True) x) y.B):=BX.weak (BX.st (u:=(T.prod (T.int .i64) (A1 16 T.u8))) (P:=Try.prog) (t:=39) (f:=fun(x:A9)=>(x.V,x.B)) (g:=fun(p:(Int×(Ar UInt8 16)))=>⟨p.1,p.2⟩) (hfg:=fun _=>rfl) (hu:=Try.underlying39) (Oo.cons (I:=(fun x=>IntKind.i64.has x)) (BX.int (by kernel_rfl)) (Oo.one (I:=(fun(g:(Ar UInt8 16))=> ∀x∈g.l,(fun _=>True) x)) (Lq (e:=5) (BX.u8 (by kernel_rfl)) (by kernel_rfl))))) (fun _ h=>h)
theorem Zb:BX Try.prog 41 Az (fun(y:AP)=>(fun(y:A9)=>(fun x=>IntKind.i64.has x) y.V∧(fun(g:(Ar UInt8 16))=> ∀x∈g.l,(fun _=>True) x) y.B) y.A∧(fun x=>IntKind.i64.has x) y.Port):=BX.weak (BX.st (u:=(T.prod Ao (T.int .i64))) (P:=Try.prog) (t:=41) (f:=fun(x:AP)=>(x.A,x.Port)) (g:=fun(p:(A9×Int))=>⟨p.1,p.2⟩) (hfg:=fun _=>rfl) (hu:=Try.underlying41) (Oo.cons (I:=(fun(y:A9)=>(fun x=>IntKind.i64.has x) y.V∧(fun(g:(Ar UInt8 16))=> ∀x∈g.l,(fun _=>True) x) y.B)) XK (Oo.one (I:=(fun x=>IntKind.i64.has x)) (BX.int (by kernel_rfl))))) (fun _ h=>h)
theorem YZ:BX Try.prog 57 An (fun(y:Aw)=>(fun(y:A9)=>(fun x=>IntKind.i64.has x) y.V∧(fun(g:(Ar UInt8 16))=> ∀x∈g.l,(fun _=>True) x) y.B) y.A∧(fun x=>IntKind.i64.has x) y.Bits):=BX.weak (BX.st (u:=(T.prod Ao (T.int .i64))) (P:=Try.prog) (t:=57) (f:=fun(x:Aw)=>(x.A,x.Bits)) (g:=fun(p:(A9×Int))=>⟨p.1,p.2⟩) (hfg:=fun _=>rfl) (hu:=Try.underlying57) (Oo.cons (I:=(fun(y:A9)=>(fun x=>IntKind.i64.has x) y.V∧(fun(g:(Ar UInt8 16))=> ∀x∈g.l,(fun _=>True) x) y.B)) XK (Oo.one (I:=(fun x=>IntKind.i64.has x)) (BX.int (by kernel_rfl))))) (fun _ h=>h)
theorem Za:BX Try.prog 45 Ac (fun(y:Aj)=>(fun(g:(Ar UInt8 32))=> ∀x∈g.l,(fun _=>True) x) y.Key∧(fun(g:(Ar UInt8 32))=> ∀x∈g.l,(fun _=>True) x) y.Psk∧(fun(y:AP)=>(fun(y:A9)=>(fun x=>IntKind.i64.has x) y.V∧(fun(g:(Ar UInt8 16))=> ∀x∈g.l,(fun _=>True) x) y.B) y.A∧(fun x=>IntKind.i64.has x) y.Port) y.End∧(fun x=>IntKind.i64.has x) y.Keep∧(fun _=>True) y.Sent∧(fun _=>True) y.Got∧(fun(g:(GS Aw))=> ∀x∈g.l,(fun(y:Aw)=>(fun(y:A9)=>(fun x=>IntKind.i64.has x) y.V∧(fun(g:(Ar UInt8 16))=> ∀x∈g.l,(fun _=>True) x) y.B) y.A∧(fun x=>IntKind.i64.has x) y.Bits) x) y.Allowed):=BX.weak (BX.st (u:=(T.prod (A1 32 T.u8) (T.prod (A1 32 T.u8) (T.prod Az (T.prod (T.int .i64) (T.prod T.u64 (T.prod T.u64 (BM (T.sl An))))))))) (P:=Try.prog) (t:=45) (f:=fun(x:Aj)=>(x.Key,x.Psk,x.End,x.Keep,x.Sent,x.Got,x.Allowed)) (g:=fun(p:((Ar UInt8 32)×(Ar UInt8 32)×AP×Int×UInt64×UInt64×(GS Aw)))=>⟨p.1,p.2.1,p.2.2.1,p.2.2.2.1,p.2.2.2.2.1,p.2.2.2.2.2.1,p.2.2.2.2.2.2⟩) (hfg:=fun _=>rfl) (hu:=Try.underlying45) (Oo.cons (I:=(fun(g:(Ar UInt8 32))=> ∀x∈g.l,(fun _=>True) x)) (Lq (e:=5) (BX.u8 (by kernel_rfl)) (by kernel_rfl)) (Oo.cons (I:=(fun(g:(Ar UInt8 32))=> ∀x∈g.l,(fun _=>True) x)) (Lq (e:=5) (BX.u8 (by kernel_rfl)) (by kernel_rfl)) (Oo.cons (I:=(fun(y:AP)=>(fun(y:A9)=>(fun x=>IntKind.i64.has x) y.V∧(fun(g:(Ar UInt8 16))=> ∀x∈g.l,(fun _=>True) x) y.B) y.A∧(fun x=>IntKind.i64.has x) y.Port)) Zb (Oo.cons (I:=(fun x=>IntKind.i64.has x)) (BX.int (by kernel_rfl)) (Oo.cons (I:=(fun _=>True)) (BX.u64 (by kernel_rfl)) (Oo.cons (I:=(fun _=>True)) (BX.u64 (by kernel_rfl)) (Oo.one (I:=(fun(g:(GS Aw))=> ∀x∈g.l,(fun(y:Aw)=>(fun(y:A9)=>(fun x=>IntKind.i64.has x) y.V∧(fun(g:(Ar UInt8 16))=> ∀x∈g.l,(fun _=>True) x) y.B) y.A∧(fun x=>IntKind.i64.has x) y.Bits) x)) (TV (BX.sl (e:=57) YZ (by kernel_rfl) (by kernel_rfl))))))))))) (fun _ h=>h)
theorem XL:BX Try.prog 27 Ad (fun(y:AG)=>(fun(g:(Ar UInt8 32))=> ∀x∈g.l,(fun _=>True) x) y.Private∧(fun x=>IntKind.i64.has x) y.Port∧(fun _=>True) y.Mark∧(fun(g:(GS Aj))=> ∀x∈g.l,(fun(y:Aj)=>(fun(g:(Ar UInt8 32))=> ∀x∈g.l,(fun _=>True) x) y.Key∧(fun(g:(Ar UInt8 32))=> ∀x∈g.l,(fun _=>True) x) y.Psk∧(fun(y:AP)=>(fun(y:A9)=>(fun x=>IntKind.i64.has x) y.V∧(fun(g:(Ar UInt8 16))=> ∀x∈g.l,(fun _=>True) x) y.B) y.A∧(fun x=>IntKind.i64.has x) y.Port) y.End∧(fun x=>IntKind.i64.has x) y.Keep∧(fun _=>True) y.Sent∧(fun _=>True) y.Got∧(fun(g:(GS Aw))=> ∀x∈g.l,(fun(y:Aw)=>(fun(y:A9)=>(fun x=>IntKind.i64.has x) y.V∧(fun(g:(Ar UInt8 16))=> ∀x∈g.l,(fun _=>True) x) y.B) y.A∧(fun x=>IntKind.i64.has x) y.Bits) x) y.Allowed) x) y.Peers):=BX.weak (BX.st (u:=(T.prod (A1 32 T.u8) (T.prod (T.int .i64) (T.prod T.u32 (BM (T.sl Ac)))))) (P:=Try.prog) (t:=27) (f:=fun(x:AG)=>(x.Private,x.Port,x.Mark,x.Peers)) (g:=fun(p:((Ar UInt8 32)×Int×UInt32×(GS Aj)))=>⟨p.1,p.2.1,p.2.2.1,p.2.2.2⟩) (hfg:=fun _=>rfl) (hu:=Try.underlying27) (Oo.cons (I:=(fun(g:(Ar UInt8 32))=> ∀x∈g.l,(fun _=>True) x)) (Lq (e:=5) (BX.u8 (by kernel_rfl)) (by kernel_rfl)) (Oo.cons (I:=(fun x=>IntKind.i64.has x)) (BX.int (by kernel_rfl)) (Oo.cons (I:=(fun _=>True)) (BX.u32 (by kernel_rfl)) (Oo.one (I:=(fun(g:(GS Aj))=> ∀x∈g.l,(fun(y:Aj)=>(fun(g:(Ar UInt8 32))=> ∀x∈g.l,(fun _=>True) x) y.Key∧(fun(g:(Ar UInt8 32))=> ∀x∈g.l,(fun _=>True) x) y.Psk∧(fun(y:AP)=>(fun(y:A9)=>(fun x=>IntKind.i64.has x) y.V∧(fun(g:(Ar UInt8 16))=> ∀x∈g.l,(fun _=>True) x) y.B) y.A∧(fun x=>IntKind.i64.has x) y.Port) y.End∧(fun x=>IntKind.i64.has x) y.Keep∧(fun _=>True) y.Sent∧(fun _=>True) y.Got∧(fun(g:(GS Aw))=> ∀x∈g.l,(fun(y:Aw)=>(fun(y:A9)=>(fun x=>IntKind.i64.has x) y.V∧(fun(g:(Ar UInt8 16))=> ∀x∈g.l,(fun _=>True) x) y.B) y.A∧(fun x=>IntKind.i64.has x) y.Bits) x) y.Allowed) x)) (TV (BX.sl (e:=45) Za (by kernel_rfl) (by kernel_rfl)))))))) (fun _ h=>h)
theorem M0{n:Nat}(xs:List AV)(h:JD Try.prog n [27,27] xs): ∃h,CF tb C9 xs []=some (.b true,h):=
 W2 Kb rfl (fun e=>by cases e) (WC.cons (by kernel_rfl) XL (WC.one (by kernel_rfl) XL)) (fun a _=>KJ a.1 a.2) h
theorem own:ownKnob Try.prog.godebug=none:=by kernel_rfl
theorem Xr:laidOutB Try.prog=true:=by kernel_rfl
theorem Jj(H:Type)(enc:TypeId×Value→H)(W:World)(base:Nat)(args:Array Value)(ds gs:List (DataW H))(before:List MemPlace)
  (hval: ∀(j:Nat) t v,Try.f3.params[j]? =some t→args[j]? =some v→Value.okWide Try.prog W .any base t v)
  (hW:DataW.Whole enc Try.prog Try.f3.params.toList Rows.differTellsSpec.vars false W args.toList ds gs before):
  Calls Try.prog 3 args W fun e W'=> ∃v,e= .returned v∧Rows.differTellsSpec.post enc Try.prog Try.f3 false true false false W args v W':=by
 refine Wk ZG (n:=12) (bt:=4) Xr rfl Try.underlying4 (by kernel_rfl) (by kernel_rfl) rfl ?_ hval hW (fun g cs h=>by cases h) (fun g h=>by cases h) fun xs ht _=>M0 xs ht
 intro ds hd
 obtain⟨d0,d1,rfl⟩: ∃d0 d1,ds=[d0,d1]:=by
  match ds,hd with
  |[d0,d1],_=>exact⟨d0,d1,rfl⟩
 rfl
def Zz:Array Value:= #[.agg #[.int .u8 0, .int .u8 0, .int .u8 0, .int .u8 0, .int .u8 0, .int .u8 0, .int .u8 0, .int .u8 0, .int .u8 0, .int .u8 0, .int .u8 0, .int .u8 0, .int .u8 0, .int .u8 0, .int .u8 0, .int .u8 0, .int .u8 0, .int .u8 0, .int .u8 0, .int .u8 0, .int .u8 0, .int .u8 0, .int .u8 0, .int .u8 0, .int .u8 0, .int .u8 0, .int .u8 0, .int .u8 0, .int .u8 0, .int .u8 0, .int .u8 0, .int .u8 0, .int .i64 0, .int .u32 0, .slice none 0 0], .agg #[.int .u8 0, .int .u8 0, .int .u8 0, .int .u8 0, .int .u8 0, .int .u8 0, .int .u8 0, .int .u8 0, .int .u8 0, .int .u8 0, .int .u8 0, .int .u8 0, .int .u8 0, .int .u8 0, .int .u8 0, .int .u8 0, .int .u8 0, .int .u8 0, .int .u8 0, .int .u8 0, .int .u8 0, .int .u8 0, .int .u8 0, .int .u8 0, .int .u8 0, .int .u8 0, .int .u8 0, .int .u8 0, .int .u8 0, .int .u8 0, .int .u8 0, .int .u8 0, .int .i64 0, .int .u32 0, .slice none 0 0]]
theorem lifted_DifferTells(os:Os)(started:os.Started)(H:Type)(enc:TypeId×Value→H):
  ReturnsInHanded {} Try.checked os 3 .any (Rows.differTellsSpec.pre6 enc Try.prog Try.f3 Rows.differTellsRow.domain false) (Rows.differTellsSpec.post enc Try.prog Try.f3 false true false false):=by
 refine returnsInHanded_of_change (C:=Try.checked) own started (by kernel_rfl) Try.func3
  (ChangeSpec.witness6 (enc:=enc) (C:=Try.checked) false ⟨#[],Zz,[]⟩ 12 (by kernel_rfl) (by kernel_rfl) (by kernel_rfl) (by kernel_rfl)) ?_
 intro W base args ds gs before hval hW _ _
 exact Jj H enc W base args ds gs before hval hW
end Go.Proofs.Ytapafbjgdfgodaa.Am
namespace Go.Proofs.Ytapafbjgdfgodaa
open Go.ChangeShapes Go.WideShapes Go.ChangeAt Go.RowKit Go.Proofs
theorem differTells_holds:Rows.DifferTellsSaid:=
 OpenClaim.holds_of_wide 3 Try.f3 rfl rfl rfl rfl rfl rfl rfl ⟨rfl,rfl,rfl,rfl,rfl⟩ rfl rfl rfl rfl rfl (by kernel_rfl) Try.func3 (by kernel_rfl)
  (of_decide_eq_true (by kernel_rfl)) (by unfold Func.isWrapper;first|(rw[if_pos (by decide+kernel)];kernel_rfl)|(rw[if_neg (by decide+kernel)];exact⟨rfl,rfl⟩))
  (fun os started H enc _=>Am.lifted_DifferTells os started H enc)
end Go.Proofs.Ytapafbjgdfgodaa
