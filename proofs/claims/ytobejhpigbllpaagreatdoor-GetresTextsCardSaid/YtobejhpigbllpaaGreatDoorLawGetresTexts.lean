/-
  PROVED: for every input of crawlway/crawlwaylaw39.GetresTexts the call returns true, and its arguments read afterwards as they read before. Printed by mkrow.py. Its conditions: those of the given row getresTextsRow and card, no others.
-/
import Derived.Test.YtobejhpigbllpaaGreatDoorCards
import Derived.Test.YtobejhpigbllpaaGreatDoorTie
import Derived.Deep.DeepHandedRow
import Derived.ProofKit
import Derived.KernelRfl
import Derived.Test.YtobejhpigbllpaaGreatDoorX6
set_option maxRecDepth 100000
set_option linter.unusedVariables false
namespace Go.Proofs.YtobejhpigbllpaaGreatDoor.Am
open Go.ChangeShapes Go.WideShapes Go.ChangeAt Go.RowKit Go.Proofs
theorem ty_25:Dp Tryz.prog 25 Ak (fun(y:AB)=>(fun x=>IntKind.i64.has x) y.V∧(fun(g:(Ar UInt8 16))=> ∀x∈g.l,(fun _=>True) x) y.B):=Dp.weak (Dp.st (u:=(CE (T.int .i64) (Ay 16 T.u8))) (P:=Tryz.prog) (t:=25) (f:=fun(x:AB)=>(x.V,x.B)) (g:=fun(p:(Int×(Ar UInt8 16)))=>⟨p.1,p.2⟩) (hfg:=fun _=>rfl) (hu:=Tryz.underlying25) (Ya.cons (I:=(fun x=>IntKind.i64.has x)) (Dp.int (by kernel_rfl)) (Ya.one (I:=(fun(g:(Ar UInt8 16))=> ∀x∈g.l,(fun _=>True) x)) (Tl (e:=5) (Dp.u8 (by kernel_rfl)) (by kernel_rfl))))) (fun _ h=>h)
theorem ty_27:Dp Tryz.prog 27 Ao (fun(y:AF)=>(fun(y:AB)=>(fun x=>IntKind.i64.has x) y.V∧(fun(g:(Ar UInt8 16))=> ∀x∈g.l,(fun _=>True) x) y.B) y.A∧(fun x=>IntKind.i64.has x) y.Port):=Dp.weak (Dp.st (u:=(CE Ak (T.int .i64))) (P:=Tryz.prog) (t:=27) (f:=fun(x:AF)=>(x.A,x.Port)) (g:=fun(p:(AB×Int))=>⟨p.1,p.2⟩) (hfg:=fun _=>rfl) (hu:=Tryz.underlying27) (Ya.cons (I:=(fun(y:AB)=>(fun x=>IntKind.i64.has x) y.V∧(fun(g:(Ar UInt8 16))=> ∀x∈g.l,(fun _=>True) x) y.B)) ty_25 (Ya.one (I:=(fun x=>IntKind.i64.has x)) (Dp.int (by kernel_rfl))))) (fun _ h=>h)
theorem ty_91:Dp Tryz.prog 91 Aj (fun(y:Aq)=>(fun(y:AB)=>(fun x=>IntKind.i64.has x) y.V∧(fun(g:(Ar UInt8 16))=> ∀x∈g.l,(fun _=>True) x) y.B) y.A∧(fun x=>IntKind.i64.has x) y.Bits):=Dp.weak (Dp.st (u:=(CE Ak (T.int .i64))) (P:=Tryz.prog) (t:=91) (f:=fun(x:Aq)=>(x.A,x.Bits)) (g:=fun(p:(AB×Int))=>⟨p.1,p.2⟩) (hfg:=fun _=>rfl) (hu:=Tryz.underlying91) (Ya.cons (I:=(fun(y:AB)=>(fun x=>IntKind.i64.has x) y.V∧(fun(g:(Ar UInt8 16))=> ∀x∈g.l,(fun _=>True) x) y.B)) ty_25 (Ya.one (I:=(fun x=>IntKind.i64.has x)) (Dp.int (by kernel_rfl))))) (fun _ h=>h)
theorem ty_89:Dp Tryz.prog 89 A5 (fun(y:Ba)=>(fun(g:(Ar UInt8 32))=> ∀x∈g.l,(fun _=>True) x) y.Key∧(fun(g:(Ar UInt8 32))=> ∀x∈g.l,(fun _=>True) x) y.Psk∧(fun(y:AF)=>(fun(y:AB)=>(fun x=>IntKind.i64.has x) y.V∧(fun(g:(Ar UInt8 16))=> ∀x∈g.l,(fun _=>True) x) y.B) y.A∧(fun x=>IntKind.i64.has x) y.Port) y.End∧(fun x=>IntKind.i64.has x) y.Keep∧(fun _=>True) y.Sent∧(fun _=>True) y.Got∧(fun(g:(GS Aq))=> ∀x∈g.l,(fun(y:Aq)=>(fun(y:AB)=>(fun x=>IntKind.i64.has x) y.V∧(fun(g:(Ar UInt8 16))=> ∀x∈g.l,(fun _=>True) x) y.B) y.A∧(fun x=>IntKind.i64.has x) y.Bits) x) y.Allowed):=Dp.weak (Dp.st (u:=(CE (Ay 32 T.u8) (CE (Ay 32 T.u8) (CE Ao (CE (T.int .i64) (CE T.u64 (CE T.u64 (T.sl Aj)))))))) (P:=Tryz.prog) (t:=89) (f:=fun(x:Ba)=>(x.Key,x.Psk,x.End,x.Keep,x.Sent,x.Got,x.Allowed)) (g:=fun(p:((Ar UInt8 32)×(Ar UInt8 32)×AF×Int×UInt64×UInt64×(GS Aq)))=>⟨p.1,p.2.1,p.2.2.1,p.2.2.2.1,p.2.2.2.2.1,p.2.2.2.2.2.1,p.2.2.2.2.2.2⟩) (hfg:=fun _=>rfl) (hu:=Tryz.underlying89) (Ya.cons (I:=(fun(g:(Ar UInt8 32))=> ∀x∈g.l,(fun _=>True) x)) (Tl (e:=5) (Dp.u8 (by kernel_rfl)) (by kernel_rfl)) (Ya.cons (I:=(fun(g:(Ar UInt8 32))=> ∀x∈g.l,(fun _=>True) x)) (Tl (e:=5) (Dp.u8 (by kernel_rfl)) (by kernel_rfl)) (Ya.cons (I:=(fun(y:AF)=>(fun(y:AB)=>(fun x=>IntKind.i64.has x) y.V∧(fun(g:(Ar UInt8 16))=> ∀x∈g.l,(fun _=>True) x) y.B) y.A∧(fun x=>IntKind.i64.has x) y.Port)) ty_27 (Ya.cons (I:=(fun x=>IntKind.i64.has x)) (Dp.int (by kernel_rfl)) (Ya.cons (I:=(fun _=>True)) (Dp.u64 (by kernel_rfl)) (Ya.cons (I:=(fun _=>True)) (Dp.u64 (by kernel_rfl)) (Ya.one (I:=(fun(g:(GS Aq))=> ∀x∈g.l,(fun(y:Aq)=>(fun(y:AB)=>(fun x=>IntKind.i64.has x) y.V∧(fun(g:(Ar UInt8 16))=> ∀x∈g.l,(fun _=>True) x) y.B) y.A∧(fun x=>IntKind.i64.has x) y.Bits) x)) (Dp.sl (e:=91) ty_91 (by kernel_rfl) (by kernel_rfl)))))))))) (fun _ h=>h)
theorem ty_54:Dp Tryz.prog 54 AD (fun(y:B4)=>(fun(g:(Ar UInt8 32))=> ∀x∈g.l,(fun _=>True) x) y.Private∧(fun x=>IntKind.i64.has x) y.Port∧(fun _=>True) y.Mark∧(fun(g:(GS Ba))=> ∀x∈g.l,(fun(y:Ba)=>(fun(g:(Ar UInt8 32))=> ∀x∈g.l,(fun _=>True) x) y.Key∧(fun(g:(Ar UInt8 32))=> ∀x∈g.l,(fun _=>True) x) y.Psk∧(fun(y:AF)=>(fun(y:AB)=>(fun x=>IntKind.i64.has x) y.V∧(fun(g:(Ar UInt8 16))=> ∀x∈g.l,(fun _=>True) x) y.B) y.A∧(fun x=>IntKind.i64.has x) y.Port) y.End∧(fun x=>IntKind.i64.has x) y.Keep∧(fun _=>True) y.Sent∧(fun _=>True) y.Got∧(fun(g:(GS Aq))=> ∀x∈g.l,(fun(y:Aq)=>(fun(y:AB)=>(fun x=>IntKind.i64.has x) y.V∧(fun(g:(Ar UInt8 16))=> ∀x∈g.l,(fun _=>True) x) y.B) y.A∧(fun x=>IntKind.i64.has x) y.Bits) x) y.Allowed) x) y.Peers):=Dp.weak (Dp.st (u:=(CE (Ay 32 T.u8) (CE (T.int .i64) (CE T.u32 (T.sl A5))))) (P:=Tryz.prog) (t:=54) (f:=fun(x:B4)=>(x.Private,x.Port,x.Mark,x.Peers)) (g:=fun(p:((Ar UInt8 32)×Int×UInt32×(GS Ba)))=>⟨p.1,p.2.1,p.2.2.1,p.2.2.2⟩) (hfg:=fun _=>rfl) (hu:=Tryz.underlying54) (Ya.cons (I:=(fun(g:(Ar UInt8 32))=> ∀x∈g.l,(fun _=>True) x)) (Tl (e:=5) (Dp.u8 (by kernel_rfl)) (by kernel_rfl)) (Ya.cons (I:=(fun x=>IntKind.i64.has x)) (Dp.int (by kernel_rfl)) (Ya.cons (I:=(fun _=>True)) (Dp.u32 (by kernel_rfl)) (Ya.one (I:=(fun(g:(GS Ba))=> ∀x∈g.l,(fun(y:Ba)=>(fun(g:(Ar UInt8 32))=> ∀x∈g.l,(fun _=>True) x) y.Key∧(fun(g:(Ar UInt8 32))=> ∀x∈g.l,(fun _=>True) x) y.Psk∧(fun(y:AF)=>(fun(y:AB)=>(fun x=>IntKind.i64.has x) y.V∧(fun(g:(Ar UInt8 16))=> ∀x∈g.l,(fun _=>True) x) y.B) y.A∧(fun x=>IntKind.i64.has x) y.Port) y.End∧(fun x=>IntKind.i64.has x) y.Keep∧(fun _=>True) y.Sent∧(fun _=>True) y.Got∧(fun(g:(GS Aq))=> ∀x∈g.l,(fun(y:Aq)=>(fun(y:AB)=>(fun x=>IntKind.i64.has x) y.V∧(fun(g:(Ar UInt8 16))=> ∀x∈g.l,(fun _=>True) x) y.B) y.A∧(fun x=>IntKind.i64.has x) y.Bits) x) y.Allowed) x)) (Dp.sl (e:=89) ty_89 (by kernel_rfl) (by kernel_rfl))))))) (fun _ h=>h)
theorem Vp{n:Nat}(xs:List AV)(h:Qy Tryz.prog n [54] xs): ∃h,Ch tb DS xs []=some (.b true,h):=
 Aa6 Rj rfl (fun e=>by cases e) (Tys.one (by kernel_rfl) ty_54) (fun a _=>Sv a) h
theorem own:ownKnob Tryz.prog.godebug=none:=by kernel_rfl
theorem laidOut:laidOutB Tryz.prog=true:=by kernel_rfl
theorem PJ(H:Type)(enc:TypeId×Value→H)(W:World)(base:Nat)(args:Array Value)(ds gs:List (DataW H))(before:List MemPlace)
  (hval: ∀(j:Nat) t v,Tryz.f6.params[j]? =some t→args[j]? =some v→Value.okWide Tryz.prog W .any base t v)
  (hW:DataW.Whole enc Tryz.prog Tryz.f6.params.toList Rows.getresTextsSpec.vars false W args.toList ds gs before)
  (hL:laidMet Tryz.prog Rows.getresTextsRow.laid W):
  Calls Tryz.prog 6 args W fun e W'=> ∃v,e= .returned v∧Rows.getresTextsSpec.post enc Tryz.prog Tryz.f6 false true false false W args v W':=by
 refine zJ fits (n:=12) (bt:=4) laidOut rfl Tryz.underlying4 (by kernel_rfl) (by kernel_rfl) rfl ?_ hval hW (fun g cs h=>by
  have hm:=P6 h
  have all: ∀x∈gll,x.1<W.heap.size∧x.2.all scal=true∧ ∃vs,DH W x.1 0 vs∧AX ⟨fun _=>⟨0,0,0⟩,[],W⟩ x.2 vs:=by
   simp only[gll,List.forall_mem_cons]
   exact⟨Xq hL (n:= "crawlway/field.names") (d:=Rows.laid_crawlway_field_names) (e:=9) (List.Mem.tail _ (List.Mem.tail _ (List.Mem.tail _ (List.Mem.tail _ (List.Mem.tail _ (List.Mem.head _)))))) (by kernel_rfl) (t:=203) (by kernel_rfl) Tryz.underlying203 (by kernel_rfl) (by kernel_rfl) rfl (by kernel_rfl),Xq hL (n:= "internal/strconv.uint64pow10") (d:=Rows.laid_internal_strconv_uint64pow10) (e:=81) (List.Mem.tail _ (List.Mem.tail _ (List.Mem.head _))) (by kernel_rfl) (t:=262) (by kernel_rfl) Tryz.underlying262 (by kernel_rfl) (by kernel_rfl) rfl (by kernel_rfl),fun x h=>(by cases h)⟩
  exact all _ hm) fun xs ht _=>Vp xs ht
 intro ds hd
 obtain⟨d0,rfl⟩: ∃d0,ds=[d0]:=by
  match ds,hd with
  |[d0],_=>exact⟨d0,rfl⟩
 rfl
def qR:Array Value:= #[.agg #[.int .u8 0, .int .u8 0, .int .u8 0, .int .u8 0, .int .u8 0, .int .u8 0, .int .u8 0, .int .u8 0, .int .u8 0, .int .u8 0, .int .u8 0, .int .u8 0, .int .u8 0, .int .u8 0, .int .u8 0, .int .u8 0, .int .u8 0, .int .u8 0, .int .u8 0, .int .u8 0, .int .u8 0, .int .u8 0, .int .u8 0, .int .u8 0, .int .u8 0, .int .u8 0, .int .u8 0, .int .u8 0, .int .u8 0, .int .u8 0, .int .u8 0, .int .u8 0, .int .i64 0, .int .u32 0, .slice none 0 0]]
def readsV{H:Type}:List (DataW H):=[.agg [.agg [.lit (.int .u8 0), .lit (.int .u8 0), .lit (.int .u8 0), .lit (.int .u8 0), .lit (.int .u8 0), .lit (.int .u8 0), .lit (.int .u8 0), .lit (.int .u8 0), .lit (.int .u8 0), .lit (.int .u8 0), .lit (.int .u8 0), .lit (.int .u8 0), .lit (.int .u8 0), .lit (.int .u8 0), .lit (.int .u8 0), .lit (.int .u8 0), .lit (.int .u8 0), .lit (.int .u8 0), .lit (.int .u8 0), .lit (.int .u8 0), .lit (.int .u8 0), .lit (.int .u8 0), .lit (.int .u8 0), .lit (.int .u8 0), .lit (.int .u8 0), .lit (.int .u8 0), .lit (.int .u8 0), .lit (.int .u8 0), .lit (.int .u8 0), .lit (.int .u8 0), .lit (.int .u8 0), .lit (.int .u8 0)], .lit (.int .i64 0), .lit (.int .u32 0), .nil]]
def ZP(cs:Array Value):Go.Obj→Go.Obj
 | .cells _ t frozen=> .cells cs t frozen
 |o=>o
noncomputable def TR(os:Os):World:=
 {World.holding Tryz.prog os ⟨#[], #[],[]⟩with heap:=(((((((((World.holding Tryz.prog os ⟨#[], #[],[]⟩).heap.modify 7 (ZP (#[.int .u8 0, .int .u8 1, .int .u8 28, .int .u8 2, .int .u8 29, .int .u8 14, .int .u8 24, .int .u8 3, .int .u8 30, .int .u8 22, .int .u8 20, .int .u8 15, .int .u8 25, .int .u8 17, .int .u8 4, .int .u8 8, .int .u8 31, .int .u8 27, .int .u8 13, .int .u8 23, .int .u8 21, .int .u8 19, .int .u8 16, .int .u8 7, .int .u8 26, .int .u8 12, .int .u8 18, .int .u8 6, .int .u8 11, .int .u8 5, .int .u8 10, .int .u8 9]))).modify 8 (ZP (#[.int .u8 0, .int .u8 1, .int .u8 56, .int .u8 2, .int .u8 57, .int .u8 49, .int .u8 28, .int .u8 3, .int .u8 61, .int .u8 58, .int .u8 42, .int .u8 50, .int .u8 38, .int .u8 29, .int .u8 17, .int .u8 4, .int .u8 62, .int .u8 47, .int .u8 59, .int .u8 36, .int .u8 45, .int .u8 43, .int .u8 51, .int .u8 22, .int .u8 53, .int .u8 39, .int .u8 33, .int .u8 30, .int .u8 24, .int .u8 18, .int .u8 12, .int .u8 5, .int .u8 63, .int .u8 55, .int .u8 48, .int .u8 27, .int .u8 60, .int .u8 41, .int .u8 37, .int .u8 16, .int .u8 46, .int .u8 35, .int .u8 44, .int .u8 21, .int .u8 52, .int .u8 32, .int .u8 23, .int .u8 11, .int .u8 54, .int .u8 26, .int .u8 40, .int .u8 15, .int .u8 34, .int .u8 20, .int .u8 31, .int .u8 10, .int .u8 25, .int .u8 14, .int .u8 19, .int .u8 9, .int .u8 13, .int .u8 8, .int .u8 7, .int .u8 6]))).modify 2 (ZP (#[.int .u64 1, .int .u64 10, .int .u64 100, .int .u64 1000, .int .u64 10000, .int .u64 100000, .int .u64 1000000, .int .u64 10000000, .int .u64 100000000, .int .u64 1000000000, .int .u64 10000000000, .int .u64 100000000000, .int .u64 1000000000000, .int .u64 10000000000000, .int .u64 100000000000000, .int .u64 1000000000000000, .int .u64 10000000000000000, .int .u64 100000000000000000, .int .u64 1000000000000000000, .int .u64 10000000000000000000]))).modify 4 (ZP (#[.iface 273 (.pointer (some ⟨14,0,none⟩))]))).modify 3 (ZP (#[.iface 273 (.pointer (some ⟨15,0,none⟩))]))).modify 0 (ZP (#[.string ⟨#[]⟩, .string ⟨#[112,114,105,118,97,116,101,95,107,101,121]⟩, .string ⟨#[108,105,115,116,101,110,95,112,111,114,116]⟩, .string ⟨#[102,119,109,97,114,107]⟩, .string ⟨#[114,101,112,108,97,99,101,95,112,101,101,114,115]⟩, .string ⟨#[112,117,98,108,105,99,95,107,101,121]⟩, .string ⟨#[114,101,109,111,118,101]⟩, .string ⟨#[117,112,100,97,116,101,95,111,110,108,121]⟩, .string ⟨#[112,114,101,115,104,97,114,101,100,95,107,101,121]⟩, .string ⟨#[101,110,100,112,111,105,110,116]⟩, .string ⟨#[112,101,114,115,105,115,116,101,110,116,95,107,101,101,112,97,108,105,118,101,95,105,110,116,101,114,118,97,108]⟩, .string ⟨#[114,101,112,108,97,99,101,95,97,108,108,111,119,101,100,95,105,112,115]⟩, .string ⟨#[97,108,108,111,119,101,100,95,105,112]⟩, .string ⟨#[112,114,111,116,111,99,111,108,95,118,101,114,115,105,111,110]⟩, .string ⟨#[116,120,95,98,121,116,101,115]⟩, .string ⟨#[114,120,95,98,121,116,101,115]⟩, .string ⟨#[101,114,114,110,111]⟩]))).push (.cells #[.string ⟨#[118,97,108,117,101,32,111,117,116,32,111,102,32,114,97,110,103,101]⟩] 275 (0,0))).push (.cells #[.string ⟨#[105,110,118,97,108,105,100,32,115,121,110,116,97,120]⟩] 275 (0,0)))}
theorem xZ(os:Os):laidMet Tryz.prog Rows.getresTextsRow.laid ((TR os).forCall (fun _ _=>0) ⟨#[],qR,[]⟩).memory:=
 laidMet_of_run' 8 (by kernel_rfl) (by kernel_rfl)
theorem reads(os:Os){H:Type}(enc:TypeId×Value→H): ∃places,DataW.whole enc Tryz.prog ((TR os).forCall (fun _ _=>0) ⟨#[],qR,[]⟩).memory Tryz.f6.params.toList Rows.getresTextsSpec.vars false (qR:Array Value).toList 12=some (readsV,[],places):=
 ⟨[],by kernel_rfl⟩
theorem lifted_GetresTexts(os:Os)(started:os.Started)(H:Type)(enc:TypeId×Value→H)(F:Stop.Interp):
  ReturnsInHanded {} Tryz.checked os 6 .any ((OpenSpec.ofChange Rows.getresTextsSpec).preRow enc Tryz.prog Tryz.f6 Rows.getresTextsRow.domain false Rows.getresTextsRow.laid) (((OpenSpec.ofChange Rows.getresTextsSpec).at F).post enc Tryz.prog Tryz.f6 false true false false):=by
 obtain⟨places,hx⟩:=reads os enc
 refine returnsInHanded_of_row (C:=Tryz.checked) (s:=OpenSpec.ofChange Rows.getresTextsSpec) own started (by kernel_rfl) Tryz.func6
  (witness_row_at (enc:=enc) (C:=Tryz.checked) false (TR os) qR rfl (by kernel_rfl) (by kernel_rfl) (by kernel_rfl)
   (OpenSpec.preRow_of_cond 12 hx (by kernel_rfl) (fun k hk=>by cases hk) (by kernel_rfl) (xZ os))) ?_
 intro W base args ds gs before hval hW _ _ _ hL _ hcond
 exact PJ H enc W base args ds gs before hval hW hL
end Go.Proofs.YtobejhpigbllpaaGreatDoor.Am
namespace Go.Proofs.YtobejhpigbllpaaGreatDoor
open Go.ChangeShapes Go.WideShapes Go.ChangeAt Go.RowKit Go.Proofs
theorem getresTexts_said:Rows.GetresTextsSaid:=
 OpenClaim.holds_of_cond 6 Tryz.f6 rfl rfl rfl rfl rfl rfl rfl ⟨rfl,rfl,rfl,rfl,rfl⟩ rfl rfl rfl rfl rfl (by kernel_rfl) Tryz.func6 (by kernel_rfl)
  (of_decide_eq_true (by kernel_rfl)) (by unfold Func.isWrapper;first|(rw[if_pos (by decide+kernel)];kernel_rfl)|(rw[if_neg (by decide+kernel)];exact⟨rfl,rfl⟩))
  (fun os started H enc _ F=>by rw[OpenClaim.pre_eq_preRow];exact Am.lifted_GetresTexts os started H enc F)
theorem SF(f:FuncId)(fn:Func)(hf:Tryz.pinned.checked.prog.funcNamed "crawlway/crawlwaylaw39.GetresTexts" =some f)(hfn:Tryz.pinned.checked.prog.funcs[f]? =some fn):
  true=Tryz.pinned.checked.prog.looks []∧ ∀(j:Nat) t,fn.params[j]? =some t→Tryz.pinned.checked.prog.wantsStandIn t=false:=by
 obtain rfl:f=6:=Option.some.inj ((show Tryz.prog.funcNamed "crawlway/crawlwaylaw39.GetresTexts" =some 6 by kernel_rfl).symm.trans hf) |>.symm
 obtain rfl:fn=Tryz.f6:=(Option.some.inj (Tryz.func6.symm.trans hfn)).symm
 refine⟨by kernel_rfl,fun j t ht=> ?_⟩
 have hm:=Array.mem_of_getElem? ht
 have all: ∀t∈Tryz.f6.params.toList,Tryz.prog.wantsStandIn t=false:=fun t ht=>by
  have h:Tryz.f6.params.toList.all (fun t=> !Tryz.prog.wantsStandIn t)=true:=by kernel_rfl
  simpa using List.all_eq_true.1 h t ht
 exact all t (by simpa using hm)
theorem getresTexts_holds:Rows.GetresTextsCardSaid:=
 Claim7.holds_tied_plain_at .later [] _ _ _ _ getresTexts_said (fun _ h=>by cases h) (by kernel_rfl) (fun _ h=>by cases h) getresTexts_row_tie rfl ⟨rfl,rfl⟩ (by kernel_rfl) rfl SF (by kernel_rfl)
end Go.Proofs.YtobejhpigbllpaaGreatDoor
