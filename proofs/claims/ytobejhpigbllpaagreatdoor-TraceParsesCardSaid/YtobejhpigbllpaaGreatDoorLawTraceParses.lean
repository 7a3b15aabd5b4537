/-
  PROVED: for every input of crawlway/crawlwaylaw51.TraceParses the call returns true, and its arguments read afterwards as they read before. Printed by mkrow.py. Its conditions: those of the given row traceParsesRow and card, no others.
-/
import Derived.Test.YtobejhpigbllpaaGreatDoorCards
import Derived.Test.YtobejhpigbllpaaGreatDoorTie
import Derived.Deep.DeepHandedRow
import Derived.Shelf.Vars
import Derived.ProofKit
import Derived.KernelRfl
import Derived.Test.YtobejhpigbllpaaGreatDoorX6
set_option maxRecDepth 100000
set_option linter.unusedVariables false
namespace Go.Proofs.YtobejhpigbllpaaGreatDoor.Am
open Go.ChangeShapes Go.WideShapes Go.ChangeAt Go.RowKit Go.Proofs
theorem UK{n:Nat}(xs:List AV)(h:Qq Tryz.prog n [9] xs): ∃h,C5 tb Ey xs []=some (.b true,h):=
 xT QZ rfl (fun e=>by cases e) (Tys.one (by kernel_rfl) (xS (by kernel_rfl))) (fun a _=>RT a) h
theorem own:ownKnob Tryz.prog.godebug=none:=by kernel_rfl
theorem Aa6:laidOutB Tryz.prog=true:=by kernel_rfl
theorem PF(H:Type)(enc:TypeId×Value→H)(W:World)(base:Nat)(args:Array Value)(ds gs:List (DataW H))(before:List MemPlace)
  (hS:W.ShapedOpen Tryz.prog)
  (hval: ∀(j:Nat) t v,Tryz.f4.params[j]? =some t→args[j]? =some v→Value.okWide Tryz.prog W .any base t v)
  (hW:DataW.Whole enc Tryz.prog Tryz.f4.params.toList Rows.traceParsesSpec.vars false W args.toList ds gs before)
  (hL:laidMet Tryz.prog Rows.traceParsesRow.laid W):
  Calls Tryz.prog 4 args W fun e W'=> ∃v,e= .returned v∧Rows.traceParsesSpec.post enc Tryz.prog Tryz.f4 false true false false W args v W':=by
 refine xF fits (n:=12) (bt:=4) Aa6 rfl Tryz.underlying4 (by kernel_rfl) (by kernel_rfl) rfl ?_ hval hW (fun g cs h=>by
  have hm:=Pv h
  have all: ∀x∈gll,x.1<W.heap.size∧x.2.all scal=true∧ ∃vs,En W x.1 0 vs∧B0 ⟨fun _=>⟨0,0,0⟩,[],W⟩ x.2 vs:=by
   simp only[gll,List.forall_mem_cons]
   exact⟨lN hL (n:= "internal/strconv.uint64pow10") (d:=Rows.laid_internal_strconv_uint64pow10) (e:=81) (List.Mem.tail _ (List.Mem.tail _ (List.Mem.head _))) (by kernel_rfl) (t:=262) (by kernel_rfl) Tryz.underlying262 (by kernel_rfl) (by kernel_rfl) rfl (by kernel_rfl),Ub hL (n:= "strconv.ErrSyntax") (d:=Rows.laid_strconv_ErrSyntax) (List.Mem.tail _ (List.Mem.tail _ (List.Mem.tail _ (List.Mem.tail _ (List.Mem.head _))))) (by kernel_rfl) (t:=110) (by kernel_rfl) ⟨_,Tryz.underlying110⟩ rfl,Ub hL (n:= "strconv.ErrRange") (d:=Rows.laid_strconv_ErrRange) (List.Mem.tail _ (List.Mem.tail _ (List.Mem.tail _ (List.Mem.head _)))) (by kernel_rfl) (t:=110) (by kernel_rfl) ⟨_,Tryz.underlying110⟩ rfl,fun x h=>(by cases h)⟩
  exact all _ hm) (fun g hg=>by
  have all: ∀x∈itl,∃m:Int,W.cell? ⟨x,0,none⟩=some (.int .i64 m):=by
   simp only[itl,List.forall_mem_cons]
   exact⟨cell_of_shapedOpen_int (zero:= #[.int .i64 0]) (t:=3) hS (of_decide_eq_true (by kernel_rfl)) (by kernel_rfl) rfl (by kernel_rfl) (by kernel_rfl) Tryz.underlying3,fun x h=>(by cases h)⟩
  exact all _ hg) fun xs ht _=>UK xs ht
 intro ds hd
 obtain⟨d0,rfl⟩: ∃d0,ds=[d0]:=by
  match ds,hd with
  |[d0],_=>exact⟨d0,rfl⟩
 rfl
def gJ(cs:Array Value):Go.Obj→Go.Obj
 | .cells _ t frozen=> .cells cs t frozen
 |o=>o
noncomputable def Tn(os:Os):World:=
 {World.holding Tryz.prog os ⟨#[], #[],[]⟩with heap:=((((((((World.holding Tryz.prog os ⟨#[], #[],[]⟩).heap.modify 7 (gJ (#[.int .u8 0, .int .u8 1, .int .u8 28, .int .u8 2, .int .u8 29, .int .u8 14, .int .u8 24, .int .u8 3, .int .u8 30, .int .u8 22, .int .u8 20, .int .u8 15, .int .u8 25, .int .u8 17, .int .u8 4, .int .u8 8, .int .u8 31, .int .u8 27, .int .u8 13, .int .u8 23, .int .u8 21, .int .u8 19, .int .u8 16, .int .u8 7, .int .u8 26, .int .u8 12, .int .u8 18, .int .u8 6, .int .u8 11, .int .u8 5, .int .u8 10, .int .u8 9]))).modify 8 (gJ (#[.int .u8 0, .int .u8 1, .int .u8 56, .int .u8 2, .int .u8 57, .int .u8 49, .int .u8 28, .int .u8 3, .int .u8 61, .int .u8 58, .int .u8 42, .int .u8 50, .int .u8 38, .int .u8 29, .int .u8 17, .int .u8 4, .int .u8 62, .int .u8 47, .int .u8 59, .int .u8 36, .int .u8 45, .int .u8 43, .int .u8 51, .int .u8 22, .int .u8 53, .int .u8 39, .int .u8 33, .int .u8 30, .int .u8 24, .int .u8 18, .int .u8 12, .int .u8 5, .int .u8 63, .int .u8 55, .int .u8 48, .int .u8 27, .int .u8 60, .int .u8 41, .int .u8 37, .int .u8 16, .int .u8 46, .int .u8 35, .int .u8 44, .int .u8 21, .int .u8 52, .int .u8 32, .int .u8 23, .int .u8 11, .int .u8 54, .int .u8 26, .int .u8 40, .int .u8 15, .int .u8 34, .int .u8 20, .int .u8 31, .int .u8 10, .int .u8 25, .int .u8 14, .int .u8 19, .int .u8 9, .int .u8 13, .int .u8 8, .int .u8 7, .int .u8 6]))).modify 2 (gJ (#[.int .u64 1, .int .u64 10, .int .u64 100, .int .u64 1000, .int .u64 10000, .int .u64 100000, .int .u64 1000000, .int .u64 10000000, .int .u64 100000000, .int .u64 1000000000, .int .u64 10000000000, .int .u64 100000000000, .int .u64 1000000000000, .int .u64 10000000000000, .int .u64 100000000000000, .int .u64 1000000000000000, .int .u64 10000000000000000, .int .u64 100000000000000000, .int .u64 1000000000000000000, .int .u64 10000000000000000000]))).modify 4 (gJ (#[.iface 273 (.pointer (some ⟨14,0,none⟩))]))).modify 3 (gJ (#[.iface 273 (.pointer (some ⟨15,0,none⟩))]))).push (.cells #[.string ⟨#[118,97,108,117,101,32,111,117,116,32,111,102,32,114,97,110,103,101]⟩] 275 (0,0))).push (.cells #[.string ⟨#[105,110,118,97,108,105,100,32,115,121,110,116,97,120]⟩] 275 (0,0)))}
theorem vL(os:Os):laidMet Tryz.prog Rows.traceParsesRow.laid ((Tn os).forCall (fun _ _=>0) ⟨#[], #[.string .empty],[]⟩).memory:=
 laidMet_of_run' 8 (by kernel_rfl) (by kernel_rfl)
theorem reads(os:Os){H:Type}(enc:TypeId×Value→H): ∃places,DataW.whole enc Tryz.prog ((Tn os).forCall (fun _ _=>0) ⟨#[], #[.string .empty],[]⟩).memory Tryz.f4.params.toList Rows.traceParsesSpec.vars false (#[.string .empty]:Array Value).toList 12=some ([.lit (.string [])],[],places):=
 ⟨[],by kernel_rfl⟩
theorem lifted_TraceParses(os:Os)(started:os.Started)(H:Type)(enc:TypeId×Value→H)(F:Stop.Interp):
  ReturnsInHanded {} Tryz.checked os 4 .any ((OpenSpec.ofChange Rows.traceParsesSpec).preRow enc Tryz.prog Tryz.f4 Rows.traceParsesRow.domain false Rows.traceParsesRow.laid) (((OpenSpec.ofChange Rows.traceParsesSpec).at F).post enc Tryz.prog Tryz.f4 false true false false):=by
 obtain⟨places,hx⟩:=reads os enc
 refine returnsInHanded_of_row (C:=Tryz.checked) (s:=OpenSpec.ofChange Rows.traceParsesSpec) own started (by kernel_rfl) Tryz.func4
  (witness_row_at (enc:=enc) (C:=Tryz.checked) false (Tn os) #[.string .empty] rfl (by kernel_rfl) (by kernel_rfl) (by kernel_rfl)
   (OpenSpec.preRow_of_cond 12 hx (by kernel_rfl) (fun k hk=>by cases hk) (by kernel_rfl) (vL os))) ?_
 intro W base args ds gs before hval hW _ _ _ hL hS hcond
 exact PF H enc W base args ds gs before hS hval hW hL
end Go.Proofs.YtobejhpigbllpaaGreatDoor.Am
namespace Go.Proofs.YtobejhpigbllpaaGreatDoor
open Go.ChangeShapes Go.WideShapes Go.ChangeAt Go.RowKit Go.Proofs
theorem traceParses_said:Rows.TraceParsesSaid:=
 OpenClaim.holds_of_cond 4 Tryz.f4 rfl rfl rfl rfl rfl rfl rfl ⟨rfl,rfl,rfl,rfl,rfl⟩ rfl rfl rfl rfl rfl (by kernel_rfl) Tryz.func4 (by kernel_rfl)
  (of_decide_eq_true (by kernel_rfl)) (by unfold Func.isWrapper;first|(rw[if_pos (by decide+kernel)];kernel_rfl)|(rw[if_neg (by decide+kernel)];exact⟨rfl,rfl⟩))
  (fun os started H enc _ F=>by rw[OpenClaim.pre_eq_preRow];exact Am.lifted_TraceParses os started H enc F)
theorem R9(f:FuncId)(fn:Func)(hf:Tryz.pinned.checked.prog.funcNamed "crawlway/crawlwaylaw51.TraceParses" =some f)(hfn:Tryz.pinned.checked.prog.funcs[f]? =some fn):
  true=Tryz.pinned.checked.prog.looks []∧ ∀(j:Nat) t,fn.params[j]? =some t→Tryz.pinned.checked.prog.wantsStandIn t=false:=by
 obtain rfl:f=4:=Option.some.inj ((show Tryz.prog.funcNamed "crawlway/crawlwaylaw51.TraceParses" =some 4 by kernel_rfl).symm.trans hf) |>.symm
 obtain rfl:fn=Tryz.f4:=(Option.some.inj (Tryz.func4.symm.trans hfn)).symm
 refine⟨by kernel_rfl,fun j t ht=> ?_⟩
 have hm:=Array.mem_of_getElem? ht
 have all: ∀t∈Tryz.f4.params.toList,Tryz.prog.wantsStandIn t=false:=fun t ht=>by
  have h:Tryz.f4.params.toList.all (fun t=> !Tryz.prog.wantsStandIn t)=true:=by kernel_rfl
  simpa using List.all_eq_true.1 h t ht
 exact all t (by simpa using hm)
theorem traceParses_holds:Rows.TraceParsesCardSaid:=
 Claim7.holds_tied_plain_at .later [] _ _ _ _ traceParses_said (fun _ h=>by cases h) (by kernel_rfl) (fun _ h=>by cases h) traceParses_row_tie rfl ⟨rfl,rfl⟩ (by kernel_rfl) rfl R9 (by kernel_rfl)
end Go.Proofs.YtobejhpigbllpaaGreatDoor
