/-
  PROVED: for every input of crawlway/crawlwaylaw51.TraceReads the call returns true, and its arguments read afterwards as they read before. Printed by mkrow.py. Its conditions: those of the given row traceReadsRow and card, no others.
-/
import Derived.Test.YtobejhpigbllpaaGreatDoorCards
import Derived.Test.YtobejhpigbllpaaGreatDoorTie
import Derived.Deep.DeepHandedRow
import Derived.Shelf.Vars
import Derived.ProofKit
import Derived.KernelRfl
import Derived.Test.YtobejhpigbllpaaGreatDoorX7
set_option linter.unusedVariables false
set_option linter.unusedSimpArgs false
open List renaming all_eq_true→cd, forall_mem_cons→j9
open Option.some renaming inj→bf
set_option maxRecDepth 100000
namespace Go.Proofs.YtobejhpigbllpaaGreatDoor.Am
open Go.ChangeShapes Go.WideShapes Go.ChangeAt Go.RowKit Go.Proofs
theorem ty_25:EO Tryz.prog 25 Aw (fun(y:AX)=>(fun x=>IntKind.i64.has x) y.V∧(fun(g:(Ar UInt8 16))=> ∀x∈g.l,(fun _=>True) x) y.B):=EO.weak (EO.st (u:=(G5 qj (T.arr 16 T.u8))) (P:=Tryz.prog) (t:=25) (f:=fun(x:AX)=>(x.V,x.B)) (g:=fun(p:(Int×(Ar UInt8 16)))=>⟨p.1,p.2⟩) (hfg:=fun _=>rfl) (hu:=Tryz.underlying25) (uG.cons (I:=(fun x=>IntKind.i64.has x)) (EO.int (by kernel_rfl)) (uG.one (I:=(fun(g:(Ar UInt8 16))=> ∀x∈g.l,(fun _=>True) x)) (EO.arr (e:=5) (EO.u8 (by kernel_rfl)) (by kernel_rfl))))) (fun _ h=>h)
theorem ty_27:EO Tryz.prog 27 Aq (fun(y:AI)=>(fun(y:AX)=>(fun x=>IntKind.i64.has x) y.V∧(fun(g:(Ar UInt8 16))=> ∀x∈g.l,(fun _=>True) x) y.B) y.A∧(fun x=>IntKind.i64.has x) y.Port):=EO.weak (EO.st (u:=(G5 Aw qj)) (P:=Tryz.prog) (t:=27) (f:=fun(x:AI)=>(x.A,x.Port)) (g:=fun(p:(AX×Int))=>⟨p.1,p.2⟩) (hfg:=fun _=>rfl) (hu:=Tryz.underlying27) (uG.cons (I:=(fun(y:AX)=>(fun x=>IntKind.i64.has x) y.V∧(fun(g:(Ar UInt8 16))=> ∀x∈g.l,(fun _=>True) x) y.B)) ty_25 (uG.one (I:=(fun x=>IntKind.i64.has x)) (EO.int (by kernel_rfl))))) (fun _ h=>h)
theorem ty_32:EO Tryz.prog 32 Ae (fun(y:Al)=>(fun x=>IntKind.i64.has x) y.Kind∧(fun(g:(GS UInt8))=> ∀x∈g.l,(fun _=>True) x) y.Bytes∧(fun(y:AI)=>(fun(y:AX)=>(fun x=>IntKind.i64.has x) y.V∧(fun(g:(Ar UInt8 16))=> ∀x∈g.l,(fun _=>True) x) y.B) y.A∧(fun x=>IntKind.i64.has x) y.Port) y.To∧(fun(g:(Ar UInt8 32))=> ∀x∈g.l,(fun _=>True) x) y.Key∧(fun x=>IntKind.i64.has x) y.Why):=EO.weak (EO.st (u:=(G5 qj (G5 (Io (T.sl T.u8)) (G5 Aq (G5 (T.arr 32 T.u8) qj))))) (P:=Tryz.prog) (t:=32) (f:=fun(x:Al)=>(x.Kind,x.Bytes,x.To,x.Key,x.Why)) (g:=fun(p:(Int×(GS UInt8)×AI×(Ar UInt8 32)×Int))=>⟨p.1,p.2.1,p.2.2.1,p.2.2.2.1,p.2.2.2.2⟩) (hfg:=fun _=>rfl) (hu:=Tryz.underlying32) (uG.cons (I:=(fun x=>IntKind.i64.has x)) (EO.int (by kernel_rfl)) (uG.cons (I:=(fun(g:(GS UInt8))=> ∀x∈g.l,(fun _=>True) x)) (EO.pu (EO.sl (e:=5) (EO.u8 (by kernel_rfl)) (by kernel_rfl) (by kernel_rfl))) (uG.cons (I:=(fun(y:AI)=>(fun(y:AX)=>(fun x=>IntKind.i64.has x) y.V∧(fun(g:(Ar UInt8 16))=> ∀x∈g.l,(fun _=>True) x) y.B) y.A∧(fun x=>IntKind.i64.has x) y.Port)) ty_27 (uG.cons (I:=(fun(g:(Ar UInt8 32))=> ∀x∈g.l,(fun _=>True) x)) (EO.arr (e:=5) (EO.u8 (by kernel_rfl)) (by kernel_rfl)) (uG.one (I:=(fun x=>IntKind.i64.has x)) (EO.int (by kernel_rfl)))))))) (fun _ h=>h)
theorem Zo{n:Nat}(xs:List AV)(h:RZ Tryz.prog n [9,32,32] xs): ∃h,CC tb H6 xs []=some (.b true,h):=
 Spec.law TR rfl (fun e=>by cases e) (Tys.cons (by kernel_rfl) (EO.str (by kernel_rfl)) (Tys.cons (by kernel_rfl) ty_32 (Tys.one (by kernel_rfl) ty_32))) (fun a _=>Vy a.1 a.2.1 a.2.2) h
theorem own:ownKnob Tryz.prog.godebug=none:=by kernel_rfl
theorem laidOut:laidOutB Tryz.prog=true:=by kernel_rfl
theorem Sp(H:Type)(enc:TypeId×Value→H)(W:World)(base:Nat)(args:Array Value)(ds gs:List (DataW H))(before:List MemPlace)
  (hS:W.ShapedOpen Tryz.prog)
  (hval: ∀(j:Nat) t v,Tryz.f5.params[j]? =some t→args[j]? =some v→Value.okWide Tryz.prog W .any base t v)
  (hW:DataW.Whole enc Tryz.prog Tryz.f5.params.toList Rows.traceReadsSpec.vars false W args.toList ds gs before)
  (hL:laidMet Tryz.prog Rows.traceReadsRow.laid W):
  Calls Tryz.prog 5 args W fun e W'=> ∃v,e= .returned v∧Rows.traceReadsSpec.post enc Tryz.prog Tryz.f5 false true false false W args v W':=by
 refine contract fits (n:=12) (bt:=4) laidOut rfl Tryz.underlying4 (by kernel_rfl) (by kernel_rfl) rfl ?_ hval hW (fun g cs h=>by
  have hm:=QH h
  have all: ∀x∈gll,x.1<W.heap.size∧x.2.all scal=true∧ ∃vs,Ev W x.1 0 vs∧B6 ⟨fun _=>⟨0,0,0⟩,[],W⟩ x.2 vs:=by
   simp only[gll,j9]
   exact⟨sL hL (n:= "internal/strconv.uint64pow10") (d:=Rows.laid_internal_strconv_uint64pow10) (e:=81) (List.Mem.tail _ (List.Mem.tail _ (List.Mem.head _))) (by kernel_rfl) (t:=262) (by kernel_rfl) Tryz.underlying262 (by kernel_rfl) (by kernel_rfl) rfl (by kernel_rfl),WA hL (n:= "strconv.ErrSyntax") (d:=Rows.laid_strconv_ErrSyntax) (List.Mem.tail _ (List.Mem.tail _ (List.Mem.tail _ (List.Mem.tail _ (List.Mem.tail _ (List.Mem.head _)))))) (by kernel_rfl) (t:=110) (by kernel_rfl) ⟨_,Tryz.underlying110⟩ rfl,WA hL (n:= "strconv.ErrRange") (d:=Rows.laid_strconv_ErrRange) (List.Mem.tail _ (List.Mem.tail _ (List.Mem.tail _ (List.Mem.tail _ (List.Mem.head _))))) (by kernel_rfl) (t:=110) (by kernel_rfl) ⟨_,Tryz.underlying110⟩ rfl,fun x h=>(by cases h)⟩
  exact all _ hm) (fun g hg=>by
  have all: ∀x∈itl,∃m:Int,W.cell? ⟨x,0,none⟩=some (.int .i64 m):=by
   simp only[itl,j9]
   exact⟨cell_of_shapedOpen_int (zero:= #[.int .i64 0]) (t:=3) hS (of_decide_eq_true (by kernel_rfl)) (by kernel_rfl) rfl (by kernel_rfl) (by kernel_rfl) Tryz.underlying3,fun x h=>(by cases h)⟩
  exact all _ hg) fun xs ht _=>Zo xs ht
 intro ds hd
 obtain⟨d0,d1,d2,rfl⟩: ∃d0 d1 d2,ds=[d0,d1,d2]:=by
  match ds,hd with
  |[d0,d1,d2],_=>exact⟨d0,d1,d2,rfl⟩
 rfl
def wO:Array Value:= #[.string .empty, .agg #[.int .i64 0, .slice none 0 0, .int .i64 0, .int .u8 0, .int .u8 0, .int .u8 0, .int .u8 0, .int .u8 0, .int .u8 0, .int .u8 0, .int .u8 0, .int .u8 0, .int .u8 0, .int .u8 0, .int .u8 0, .int .u8 0, .int .u8 0, .int .u8 0, .int .u8 0, .int .i64 0, .int .u8 0, .int .u8 0, .int .u8 0, .int .u8 0, .int .u8 0, .int .u8 0, .int .u8 0, .int .u8 0, .int .u8 0, .int .u8 0, .int .u8 0, .int .u8 0, .int .u8 0, .int .u8 0, .int .u8 0, .int .u8 0, .int .u8 0, .int .u8 0, .int .u8 0, .int .u8 0, .int .u8 0, .int .u8 0, .int .u8 0, .int .u8 0, .int .u8 0, .int .u8 0, .int .u8 0, .int .u8 0, .int .u8 0, .int .u8 0, .int .u8 0, .int .u8 0, .int .i64 0], .agg #[.int .i64 0, .slice none 0 0, .int .i64 0, .int .u8 0, .int .u8 0, .int .u8 0, .int .u8 0, .int .u8 0, .int .u8 0, .int .u8 0, .int .u8 0, .int .u8 0, .int .u8 0, .int .u8 0, .int .u8 0, .int .u8 0, .int .u8 0, .int .u8 0, .int .u8 0, .int .i64 0, .int .u8 0, .int .u8 0, .int .u8 0, .int .u8 0, .int .u8 0, .int .u8 0, .int .u8 0, .int .u8 0, .int .u8 0, .int .u8 0, .int .u8 0, .int .u8 0, .int .u8 0, .int .u8 0, .int .u8 0, .int .u8 0, .int .u8 0, .int .u8 0, .int .u8 0, .int .u8 0, .int .u8 0, .int .u8 0, .int .u8 0, .int .u8 0, .int .u8 0, .int .u8 0, .int .u8 0, .int .u8 0, .int .u8 0, .int .u8 0, .int .u8 0, .int .u8 0, .int .i64 0]]
def readsV{H:Type}:List (DataW H):=[.lit (.string []), .agg [.lit (.int .i64 0), .nil, .agg [.agg [.lit (.int .i64 0), .agg [.lit (.int .u8 0), .lit (.int .u8 0), .lit (.int .u8 0), .lit (.int .u8 0), .lit (.int .u8 0), .lit (.int .u8 0), .lit (.int .u8 0), .lit (.int .u8 0), .lit (.int .u8 0), .lit (.int .u8 0), .lit (.int .u8 0), .lit (.int .u8 0), .lit (.int .u8 0), .lit (.int .u8 0), .lit (.int .u8 0), .lit (.int .u8 0)]], .lit (.int .i64 0)], .agg [.lit (.int .u8 0), .lit (.int .u8 0), .lit (.int .u8 0), .lit (.int .u8 0), .lit (.int .u8 0), .lit (.int .u8 0), .lit (.int .u8 0), .lit (.int .u8 0), .lit (.int .u8 0), .lit (.int .u8 0), .lit (.int .u8 0), .lit (.int .u8 0), .lit (.int .u8 0), .lit (.int .u8 0), .lit (.int .u8 0), .lit (.int .u8 0), .lit (.int .u8 0), .lit (.int .u8 0), .lit (.int .u8 0), .lit (.int .u8 0), .lit (.int .u8 0), .lit (.int .u8 0), .lit (.int .u8 0), .lit (.int .u8 0), .lit (.int .u8 0), .lit (.int .u8 0), .lit (.int .u8 0), .lit (.int .u8 0), .lit (.int .u8 0), .lit (.int .u8 0), .lit (.int .u8 0), .lit (.int .u8 0)], .lit (.int .i64 0)], .agg [.lit (.int .i64 0), .nil, .agg [.agg [.lit (.int .i64 0), .agg [.lit (.int .u8 0), .lit (.int .u8 0), .lit (.int .u8 0), .lit (.int .u8 0), .lit (.int .u8 0), .lit (.int .u8 0), .lit (.int .u8 0), .lit (.int .u8 0), .lit (.int .u8 0), .lit (.int .u8 0), .lit (.int .u8 0), .lit (.int .u8 0), .lit (.int .u8 0), .lit (.int .u8 0), .lit (.int .u8 0), .lit (.int .u8 0)]], .lit (.int .i64 0)], .agg [.lit (.int .u8 0), .lit (.int .u8 0), .lit (.int .u8 0), .lit (.int .u8 0), .lit (.int .u8 0), .lit (.int .u8 0), .lit (.int .u8 0), .lit (.int .u8 0), .lit (.int .u8 0), .lit (.int .u8 0), .lit (.int .u8 0), .lit (.int .u8 0), .lit (.int .u8 0), .lit (.int .u8 0), .lit (.int .u8 0), .lit (.int .u8 0), .lit (.int .u8 0), .lit (.int .u8 0), .lit (.int .u8 0), .lit (.int .u8 0), .lit (.int .u8 0), .lit (.int .u8 0), .lit (.int .u8 0), .lit (.int .u8 0), .lit (.int .u8 0), .lit (.int .u8 0), .lit (.int .u8 0), .lit (.int .u8 0), .lit (.int .u8 0), .lit (.int .u8 0), .lit (.int .u8 0), .lit (.int .u8 0)], .lit (.int .i64 0)]]
def Z5(cs:Array Value):Go.Obj→Go.Obj
 | .cells _ t frozen=> .cells cs t frozen
 |o=>o
noncomputable def V6(os:Os):World:=
 {World.holding Tryz.prog os ⟨#[], #[],[]⟩with heap:=((((((((((World.holding Tryz.prog os ⟨#[], #[],[]⟩).heap.modify 7 (Z5 (#[.int .u8 0, .int .u8 1, .int .u8 28, .int .u8 2, .int .u8 29, .int .u8 14, .int .u8 24, .int .u8 3, .int .u8 30, .int .u8 22, .int .u8 20, .int .u8 15, .int .u8 25, .int .u8 17, .int .u8 4, .int .u8 8, .int .u8 31, .int .u8 27, .int .u8 13, .int .u8 23, .int .u8 21, .int .u8 19, .int .u8 16, .int .u8 7, .int .u8 26, .int .u8 12, .int .u8 18, .int .u8 6, .int .u8 11, .int .u8 5, .int .u8 10, .int .u8 9]))).modify 8 (Z5 (#[.int .u8 0, .int .u8 1, .int .u8 56, .int .u8 2, .int .u8 57, .int .u8 49, .int .u8 28, .int .u8 3, .int .u8 61, .int .u8 58, .int .u8 42, .int .u8 50, .int .u8 38, .int .u8 29, .int .u8 17, .int .u8 4, .int .u8 62, .int .u8 47, .int .u8 59, .int .u8 36, .int .u8 45, .int .u8 43, .int .u8 51, .int .u8 22, .int .u8 53, .int .u8 39, .int .u8 33, .int .u8 30, .int .u8 24, .int .u8 18, .int .u8 12, .int .u8 5, .int .u8 63, .int .u8 55, .int .u8 48, .int .u8 27, .int .u8 60, .int .u8 41, .int .u8 37, .int .u8 16, .int .u8 46, .int .u8 35, .int .u8 44, .int .u8 21, .int .u8 52, .int .u8 32, .int .u8 23, .int .u8 11, .int .u8 54, .int .u8 26, .int .u8 40, .int .u8 15, .int .u8 34, .int .u8 20, .int .u8 31, .int .u8 10, .int .u8 25, .int .u8 14, .int .u8 19, .int .u8 9, .int .u8 13, .int .u8 8, .int .u8 7, .int .u8 6]))).modify 2 (Z5 (#[.int .u64 1, .int .u64 10, .int .u64 100, .int .u64 1000, .int .u64 10000, .int .u64 100000, .int .u64 1000000, .int .u64 10000000, .int .u64 100000000, .int .u64 1000000000, .int .u64 10000000000, .int .u64 100000000000, .int .u64 1000000000000, .int .u64 10000000000000, .int .u64 100000000000000, .int .u64 1000000000000000, .int .u64 10000000000000000, .int .u64 100000000000000000, .int .u64 1000000000000000000, .int .u64 10000000000000000000]))).modify 6 (Z5 (#[.int .u8 128, .int .u8 191, .int .u8 160, .int .u8 191, .int .u8 128, .int .u8 159, .int .u8 144, .int .u8 191, .int .u8 128, .int .u8 143, .int .u8 0, .int .u8 0, .int .u8 0, .int .u8 0, .int .u8 0, .int .u8 0, .int .u8 0, .int .u8 0, .int .u8 0, .int .u8 0, .int .u8 0, .int .u8 0, .int .u8 0, .int .u8 0, .int .u8 0, .int .u8 0, .int .u8 0, .int .u8 0, .int .u8 0, .int .u8 0, .int .u8 0, .int .u8 0]))).modify 4 (Z5 (#[.iface 273 (.pointer (some ⟨14,0,none⟩))]))).modify 3 (Z5 (#[.iface 273 (.pointer (some ⟨15,0,none⟩))]))).modify 5 (Z5 ((Go.Pinned.utf8FirstZ.map fun(n:Nat)=>Value.int .u8 n).toArray))).push (.cells #[.string ⟨#[118,97,108,117,101,32,111,117,116,32,111,102,32,114,97,110,103,101]⟩] 275 (0,0))).push (.cells #[.string ⟨#[105,110,118,97,108,105,100,32,115,121,110,116,97,120]⟩] 275 (0,0)))}
theorem laid_met(os:Os):laidMet Tryz.prog Rows.traceReadsRow.laid ((V6 os).forCall (fun _ _=>0) ⟨#[],wO,[]⟩).memory:=
 laidMet_of_run' 8 (by kernel_rfl) (by kernel_rfl)
theorem reads(os:Os){H:Type}(enc:TypeId×Value→H): ∃places,DataW.whole enc Tryz.prog ((V6 os).forCall (fun _ _=>0) ⟨#[],wO,[]⟩).memory Tryz.f5.params.toList Rows.traceReadsSpec.vars false (wO:Array Value).toList 12=some (readsV,[],places):=
 ⟨[],by kernel_rfl⟩
theorem lifted_TraceReads(os:Os)(started:os.Started)(H:Type)(enc:TypeId×Value→H)(F:Stop.Interp):
  ReturnsInHanded {} Tryz.checked os 5 .any ((OpenSpec.ofChange Rows.traceReadsSpec).preRow enc Tryz.prog Tryz.f5 Rows.traceReadsRow.domain false Rows.traceReadsRow.laid) (((OpenSpec.ofChange Rows.traceReadsSpec).at F).post enc Tryz.prog Tryz.f5 false true false false):=by
 obtain⟨places,hx⟩:=reads os enc
 refine returnsInHanded_of_row (C:=Tryz.checked) (s:=OpenSpec.ofChange Rows.traceReadsSpec) own started (by kernel_rfl) Tryz.func5
  (witness_row_at (enc:=enc) (C:=Tryz.checked) false (V6 os) wO rfl (by kernel_rfl) (by kernel_rfl) (by kernel_rfl)
   (OpenSpec.preRow_of_cond 12 hx (by kernel_rfl) (fun k hk=>by cases hk) (by kernel_rfl) (laid_met os))) ?_
 intro W base args ds gs before hval hW _ _ _ hL hS hcond
 exact Sp H enc W base args ds gs before hS hval hW hL
end Go.Proofs.YtobejhpigbllpaaGreatDoor.Am
namespace Go.Proofs.YtobejhpigbllpaaGreatDoor
open Go.ChangeShapes Go.WideShapes Go.ChangeAt Go.RowKit Go.Proofs
theorem traceReads_said:Rows.TraceReadsSaid:=
 OpenClaim.holds_of_cond 5 Tryz.f5 rfl rfl rfl rfl rfl rfl rfl ⟨rfl,rfl,rfl,rfl,rfl⟩ rfl rfl rfl rfl rfl (by kernel_rfl) Tryz.func5 (by kernel_rfl)
  (of_decide_eq_true (by kernel_rfl)) (by unfold Func.isWrapper;first|(rw[if_pos (by decide+kernel)];kernel_rfl)|(rw[if_neg (by decide+kernel)];exact⟨rfl,rfl⟩))
  (fun os started H enc _ F=>by rw[OpenClaim.pre_eq_preRow];exact Am.lifted_TraceReads os started H enc F)
theorem UZ(f:FuncId)(fn:Func)(hf:Tryz.pinned.checked.prog.funcNamed "crawlway/crawlwaylaw51.TraceReads" =some f)(hfn:Tryz.pinned.checked.prog.funcs[f]? =some fn):
  true=Tryz.pinned.checked.prog.looks []∧ ∀(j:Nat) t,fn.params[j]? =some t→Tryz.pinned.checked.prog.wantsStandIn t=false:=by
 obtain rfl:f=5:=bf ((show Tryz.prog.funcNamed "crawlway/crawlwaylaw51.TraceReads" =some 5 by kernel_rfl).symm.trans hf) |>.symm
 obtain rfl:fn=Tryz.f5:=(bf (Tryz.func5.symm.trans hfn)).symm
 refine⟨by kernel_rfl,fun j t ht=> ?_⟩
 have hm:=Array.mem_of_getElem? ht
 have all: ∀t∈Tryz.f5.params.toList,Tryz.prog.wantsStandIn t=false:=fun t ht=>by
  have h:Tryz.f5.params.toList.all (fun t=> !Tryz.prog.wantsStandIn t)=true:=by kernel_rfl
  simpa using cd.1 h t ht
 exact all t (by simpa using hm)
theorem traceReads_holds:Rows.TraceReadsCardSaid:=
 Claim7.holds_tied_plain_at .later [] _ _ _ _ traceReads_said (fun _ h=>by cases h) (by kernel_rfl) (fun _ h=>by cases h) traceReads_row_tie rfl ⟨rfl,rfl⟩ (by kernel_rfl) rfl UZ (by kernel_rfl)
end Go.Proofs.YtobejhpigbllpaaGreatDoor
