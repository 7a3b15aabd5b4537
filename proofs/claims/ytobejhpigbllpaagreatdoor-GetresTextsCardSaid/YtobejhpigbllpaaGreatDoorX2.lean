/-
  What an operation must be so that the machine's carries it out: a test by the machine's own eye, and that it is enough.
  Regions: in the order of the text; in any order that the tape draws.
  A region whose order is drawn: one walk, in the order of the text, serves every order.
  The machine's code and the model's; what it runs is what the model runs.
  What a call comes to in the machine, it comes to in the model.
  A call of the machine's is the model's.
  Functions that the machine takes as they are said: those that the model knows as entries of its own.
  Entries of the model's that the machine takes as they are said: a byte's place in bytes, how often it is there.
  What operations come to, on typed values: calls, equality, arrays.
  What operations come to, on typed values: pointers that are only read through.
  A text's runes, one behind another one.
  Regions whose order is drawn, where each operation that reads memory has one place.
  strings.Builder: what its methods come to, on a builder in memory of its own.
  strings.Builder: a builder in memory of its own as one thing, its bytes.
  Values that are kept: functions, structures with functions; calls whose code is walked in place.
  Calls whose code is walked in place.
  What operations come to, on kept values: rows of them, variables with parts, loops that are unrolled.
-/
import Derived.Still
import Derived.Tactics
import Derived.LoopN
import Derived.Scope
import Derived.Control
import Derived.Laws.Sem
import GoSem.Extern.Table
import Derived.Lib.Bytealg
import Derived.Test.YtobejhpigbllpaaGreatDoorX1
namespace Go.Proofs.YtobejhpigbllpaaGreatDoor.Am
def qY(tb:CW)(C:Dt)(r:AV×Option Av)(e:Ending)(w:World):Prop:=
 ∃(v:Value) (D:Dt),e= .returned v∧KU C D∧Inv tb D∧D.w=w∧D.H=r.2.getD C.H∧FI D r.1 v
def qX(P:Program)(tb:CW)(C:Dt)(r:AV×Option Av)(x:Result Next):Prop:=
 Yields tb C r x∨ ∃(g:Nat) (vs:Array Value),x= .ok (.enter g vs) C.w∧Calls P g vs C.w (qY tb C r)
def Fv(P:Program)(tb:CW)(cl:Nat→List AV→Av→KB):Prop:=
 ∀(g:Nat) (C:Dt) (args:List AV) (vs:List Value) (r:AV×Option Av),Inv tb C→AX C args vs→cl g args C.H=some r→qX P tb C r ((callFunc g vs.toArray).run P C.w)
def qV(P:Program)(tb:CW):Prop:= ∀g p,tb.prim g=some p→Fv P tb fun g' args h=>if g'=g then p args h else none
theorem OV{P:Program}{tb:CW}{cl:Nat→List AV→Av→KB}(hp:qV P tb)(hc:Fv P tb cl):Fv P tb fun g args h=>B1 tb cl h g args:=by
 intro g C args vs r I hr h
 simp only[B1]at h
 split at h
 ·rename_i p hpg
  exact hp g p hpg g C args vs r I hr (by simpa using h)
 ·exact hc g C args vs r I hr h
theorem Ux{P:Program}{tb:CW}{C:Dt}{a:Act}{o:Oper}{r:AV×Option Av}(h:qX P tb C r ((execOp a.eval o).run P C.w)){next:Act→World→Prop}{Q:Exit→Act→World→Prop}
  (k: ∀(v:Value) (D:Dt),KU C D→Inv tb D→D.H=r.2.getD C.H→FI D r.1 v→next (a.put o.dst v) D.w):o.wp P a C.w next Q:=by
 rcases h with h|⟨g,vs,e,hc⟩
 ·exact aM h k
 ·unfold Oper.wp
  rw[e]
  refine hc.mono fun e w' ⟨v,D,he,X,I,hw,hH,hr⟩=> ?_
  subst he
  subst hw
  exact k v D X I hH hr
def Dq(P:Program)(tb:CW)(ao:HN)(o:Oper):Prop:=
 ∀{cl:Nat→List AV→Av→KB} {C:Dt} {f:Fr} {a:Act} {nt:Nat} {r:AV×Option Av},Fv P tb (fun g args h=>B1 tb cl h g args)→Inv tb C→Br C f a nt→
  Bp tb cl (eval tb f) C.H ao=some r→qX P tb C r ((execOp a.eval o).run P C.w)
section
variable{P:Program}{tb:CW}{o:Oper}
def isSlice(P:Program)(t e:TypeId):Bool:=match P.underlying t with
 |some (.slice e')=>e==e'
 |_=>false
def LK(P:Program)(t:TypeId):Option TypeId:=match P.underlying t with
 |some (.slice e)=>some e
 |_=>none
theorem DU{t e:TypeId}(h:LK P t=some e):P.underlying t=some (.slice e):=by
 unfold LK at h
 split at h
 ·rename_i e' hu;rw[hu];simp at h;rw[h]
 ·cases h
def oG(P:Program)(t:TypeId):Option (Nat×TypeId):=match P.underlying t with
 |some (.array n e)=>some (n,e)
 |_=>none
theorem N2{t e:TypeId}{n:Nat}(h:oG P t=some (n,e)):P.underlying t=some (.array n e):=by
 unfold oG at h
 split at h
 ·rename_i n' e' hu;rw[hu];simp at h;rw[h.1,h.2]
 ·cases h
def VR(P:Program)(t:TypeId):Option (Array Field):=match P.underlying t with
 |some (.struct fs)=>some fs
 |_=>none
theorem RM{t:TypeId}{fs:Array Field}(h:VR P t=some fs):P.underlying t=some (.struct fs):=by
 unfold VR at h
 split at h
 ·rename_i fs' hu;rw[hu];simp at h;rw[h]
 ·cases h
def QV(P:Program)(t:TypeId):Bool:=match P.underlying t with
 |some .string=>true
 |_=>false
theorem Gt{t:TypeId}(h:QV P t=true):P.underlying t=some .string:=by
 unfold QV at h
 split at h
 ·assumption
 ·cases h
def yG(P:Program)(t:TypeId):Option IntKind:=match P.underlying t with
 |some (.int k)=>some k
 |_=>none
theorem nD{t:TypeId}{k:IntKind}(h:yG P t=some k):P.underlying t=some (.int k):=by
 unfold yG at h
 split at h
 ·rename_i fs' hu;rw[hu];simp at h;rw[h]
 ·cases h
def pS(P:Program)(t:TypeId):Bool:=match P.underlying t with
 |some (.interface _)=>true
 |_=>false
def okMv(P:Program)(x:AO)(o:Oper):Bool:=match o.op with
 | .move y=>Bc x y
 | .assign y=>Bc x y
 | .call c=>match c.callee,c.args.toList,(c.argTypes[0]?).bind (oG P),x with
  | .builtin .len,[_],some (n,_), .k (.i .i64 m)=>m==n
  |_,_,_,_=>false
 |_=>false
theorem ok_mv{x:AO}(h:okMv P x o=true):Dq P tb (.mv x) o:=by
 intro cl C f a nt r hc I F hr
 simp only[Bp,Option.some.injEq]at hr
 subst hr
 unfold okMv at h
 split at h
 ·rename_i y ho;exact .inl (uW I F (.inl ho) h)
 ·rename_i y ho;exact .inl (uW I F (.inr ho) h)
 ·rename_i c ho
  split at h
  ·rename_i y n e m hcal hargs hty
   have hm:m=(n:Int):=by simpa using h
   subst hm
   obtain⟨t,ht,hu⟩:=Option.bind_eq_some_iff.1 hty
   have hargs':c.args= #[y]:=by rw[←Array.toList_inj,hargs]
   refine .inl (A0 I (v:= .int .i64 n) (DG ho hcal fun q=> ?_) rfl)
   simp[hargs',builtin,Builtin.len_,ht,At (N2 hu),goInt]
  ·cases h
 ·cases h
def lY(x y z:AO)(o:Oper):Bool:=match o.op with
 | .pick a b c=>Bc x a&&Bc y b&&Bc z c
 |_=>false
theorem ok_pick{x y z:AO}(h:lY x y z o=true):Dq P tb (.pick x y z) o:=by
 intro cl C f a nt r hc I F hr
 unfold lY at h
 split at h
 ·rename_i a b c ho
  simp only[Bool.and_eq_true]at h
  simp only[Bp]at hr
  split at hr
  ·rename_i t ht
   simp only[Option.some.injEq]at hr
   subst hr
   exact .inl (uU I F ho h.1.1 h.1.2 h.2 ht)
  ·cases hr
 ·cases h
def cL(P:Program)(t0:Nat)(z:List AV)(o:Oper):Bool:=match o.op with
 | .alloc t=>match(P.info? t).bind (·.zero)with
  |some zv=>Nat.beq t0 t&&NZ z zv.cells.toList
  |none=>false
 |_=>false
theorem wC{t0:Nat}{z:List AV}(h:cL P t0 z o=true):Dq P tb (.alloc t0 z) o:=by
 intro cl C f a nt r hc I F hr
 unfold cL at h
 split at h
 ·rename_i t ho
  split at h
  ·rename_i zv hz
   obtain⟨i,hi,hz2⟩:=Option.bind_eq_some_iff.1 hz
   simp only[Bp,Option.some.injEq]at hr
   subst hr
   rw[Bool.and_eq_true]at h
   obtain rfl:=Nat.eq_of_beq_eq_true h.1
   exact .inl (rG I ho hi hz2 h.2)
  ·cases h
 ·cases h
def xJ(t0 n:Nat)(x:AO)(o:Oper):Bool:=match o.op with
 | .box t y=>(Bc x y&&decide (0<n))&&Nat.beq t0 t
 |_=>false
theorem ok_box{t0 n:Nat}{x:AO}(h:xJ t0 n x o=true):Dq P tb (.box t0 n x) o:=by
 intro cl C f a nt r hc I F hr
 unfold xJ at h
 split at h
 ·rename_i t y ho
  rw[Bool.and_eq_true]at h
  obtain rfl:=Nat.eq_of_beq_eq_true h.2
  replace h:=h.1
  simp only[Bool.and_eq_true,decide_eq_true_eq]at h
  simp only[Bp]at hr
  split at hr
  ·rename_i hn
   simp only[Option.some.injEq]at hr
   subst hr
   exact .inl (sim_box I F ho h.1 (by omega))
  ·cases hr
 ·cases h
def okLd(P:Program)(ag:Bool)(n:Nat)(x:AO)(o:Oper):Bool:=match o.op with
 | .load t y=>Bc x y&&(P.underlying t).isSome&&ag==EJ P t&&n==P.cellsOf t
 |_=>false
theorem ok_ld{ag:Bool}{n:Nat}{x:AO}(h:okLd P ag n x o=true):Dq P tb (.ld ag n x) o:=by
 intro cl C f a nt r hc I F hr
 unfold okLd at h
 split at h
 ·rename_i t y ho
  simp only[Bool.and_eq_true,beq_iff_eq]at h
  obtain⟨⟨⟨h1,h2⟩,rfl⟩,rfl⟩:=h
  exact .inl (sim_ld I F ho h1 h2 hr)
 ·cases h
def okSt(P:Program)(n:Nat)(x z:AO)(o:Oper):Bool:=match o.op with
 | .store t y u=>Bc x y&&Bc z u&&(P.info? t).isSome&&n==P.cellsOf t&&decide (0<n)
 |_=>false
theorem ok_st{n:Nat}{x z:AO}(h:okSt P n x z o=true):Dq P tb (.st n x z) o:=by
 intro cl C f a nt r hc I F hr
 unfold okSt at h
 split at h
 ·rename_i t y u ho
  simp only[Bool.and_eq_true,beq_iff_eq,decide_eq_true_eq]at h
  obtain⟨⟨⟨⟨h1,h2⟩,h3⟩,rfl⟩,h4⟩:=h
  simp only[Bp]at hr
  obtain⟨H',hs,rfl⟩:=Option.map_eq_some_iff.1 hr
  exact .inl (sim_st I F ho h1 h2 h3 h4 hs)
 ·cases h
def lZ(x:AO)(o:Oper):Bool:=match o.op with
 | .nilCheck y=>Bc x y
 |_=>false
theorem ok_nilc{x:AO}(h:lZ x o=true):Dq P tb (.nilc x) o:=by
 intro cl C f a nt r hc I F hr
 unfold lZ at h
 split at h
 ·rename_i y ho;exact .inl (uV I F ho h hr)
 ·cases h
def xL(op:BinOp)(x y:AO)(o:Oper):Bool:=match o.op with
 | .binOp op' _ u v _=>op==op'&&Bc x u&&Bc y v
 |_=>false
theorem ok_bin{op:BinOp}{x y:AO}(h:xL op x y o=true):Dq P tb (.bin op x y) o:=by
 intro cl C f a nt r hc I F hr
 unfold xL at h
 split at h
 ·rename_i op' t u v t' ho
  simp only[Bool.and_eq_true,beq_iff_eq]at h
  obtain⟨⟨rfl,h1⟩,h2⟩:=h
  exact .inl (sim_bin I F ho h1 h2 hr)
 ·cases h
def okUn(op:UnOp)(x:AO)(o:Oper):Bool:=match o.op with
 | .unOp op' _ u=>op==op'&&Bc x u
 |_=>false
theorem ok_un{op:UnOp}{x:AO}(h:okUn op x o=true):Dq P tb (.un op x) o:=by
 intro cl C f a nt r hc I F hr
 unfold okUn at h
 split at h
 ·rename_i op' t u ho
  simp only[Bool.and_eq_true,beq_iff_eq]at h
  obtain⟨rfl,h1⟩:=h
  exact .inl (sim_un I F ho h1 hr)
 ·cases h
def xF(P:Program)(k:IntKind)(x:AO)(o:Oper):Bool:=match o.op with
 | .convert s d y=>Bc x y&&(P.underlying s).isSome&&yG P d==some k
 |_=>false
theorem ok_cvi{k:IntKind}{x:AO}(h:xF P k x o=true):Dq P tb (.cvi k x) o:=by
 intro cl C f a nt r hc I F hr
 unfold xF at h
 split at h
 ·rename_i s d y ho
  simp only[Bool.and_eq_true,beq_iff_eq]at h
  simp only[Bp]at hr
  split at hr
  ·rename_i k' n hn
   simp only[Option.some.injEq]at hr
   subst hr
   exact .inl (sim_cvi I F ho h.1.2 (nD h.2) h.1.1 (by rw[hn];rfl))
  ·cases hr
 ·cases h
def TN(P:Program)(x:AO)(o:Oper):Bool:=match o.op with
 | .convert s d y=>Bc x y&&(P.underlying s).isSome&&QV P d
 |_=>false
theorem ok_cvid{x:AO}(h:TN P x o=true):Dq P tb (.cvid x) o:=by
 intro cl C f a nt r hc I F hr
 unfold TN at h
 split at h
 ·rename_i s d y ho
  simp only[Bool.and_eq_true]at h
  simp only[Bp]at hr
  split at hr
  ·rename_i l hn
   simp only[Option.some.injEq]at hr
   subst hr
   exact .inl (vB I F ho h.1.2 (Gt h.2) h.1.1 hn)
  ·cases hr
 ·cases h
theorem ok_cvc{x:AO}(h:TN P x o=true):Dq P tb (.cvc x) o:=by
 intro cl C f a nt r hc I F hr
 unfold TN at h
 split at h
 ·rename_i s d y ho
  simp only[Bool.and_eq_true]at h
  simp only[Bp]at hr
  split at hr
  ·rename_i k n hn
   simp only[Option.some.injEq]at hr
   subst hr
   exact .inl (sim_cvc I F ho h.1.2 (Gt h.2) h.1.1 (by rw[hn];rfl))
  ·cases hr
 ·cases h
def wP [DecidableEq Fn](fn:Fn)(x1 x2:List AO)(o:Oper):Bool:=match o.op with
 | .makeFunc fn' y1 y2=>decide (fn=fn')&&P2 x1 y1.toList&&P2 x2 y2.toList
 |_=>false
theorem ok_mkf [DecidableEq Fn]{fn:Fn}{x1 x2:List AO}(h:wP fn x1 x2 o=true):Dq P tb (.mkf fn x1 x2) o:=by
 intro cl C f a nt r hc I F hr
 unfold wP at h
 split at h
 ·rename_i fn' y1 y2 ho
  simp only[Bool.and_eq_true,decide_eq_true_eq]at h
  obtain⟨⟨rfl,h1⟩,h2⟩:=h
  simp only[Bp,Option.some.injEq]at hr
  subst hr
  exact .inl (sim_mkf I F ho h1 h2)
 ·cases h
def mA(P:Program)(t:TypeId)(x:AO)(o:Oper):Bool:=match o.op with
 | .makeInterface t' y=>t==t'&&Bc x y&&(P.underlying t).isSome&& !pS P t
 |_=>false
theorem ok_mkif{t:TypeId}{x:AO}(h:mA P t x o=true):Dq P tb (.mkif t x) o:=by
 intro cl C f a nt r hc I F hr
 unfold mA at h
 split at h
 ·rename_i t' y ho
  simp only[Bool.and_eq_true,beq_iff_eq,Bool.not_eq_true']at h
  obtain⟨⟨⟨rfl,h1⟩,h2⟩,h3⟩:=h
  simp only[Bp,Option.some.injEq]at hr
  subst hr
  refine .inl (uX I F ho (fun m hm=> ?_) h2 h1)
  simp[pS,hm]at h3
 ·cases h
def wX(x:AO)(i:Nat)(o:Oper):Bool:=match o.op with
 | .extract y j=>Bc x y&&i==j
 |_=>false
theorem ok_ext{x:AO}{i:Nat}(h:wX x i o=true):Dq P tb (.ext x i) o:=by
 intro cl C f a nt r hc I F hr
 unfold wX at h
 split at h
 ·rename_i y j ho
  simp only[Bool.and_eq_true,beq_iff_eq]at h
  obtain⟨h1,rfl⟩:=h
  simp only[Bp]at hr
  split at hr
  ·rename_i vs hv
   simp only[val]at hr
   obtain⟨v,hv',rfl⟩:=Option.map_eq_some_iff.1 hr
   exact .inl (sim_ext I F ho h1 hv hv')
  ·cases hr
 ·cases h
def Un(o:Oper):Option (Builtin×List Operand×List TypeId):=match o.op with
 | .call c=>match c.callee with
  | .builtin b=>some (b,c.args.toList,c.argTypes.toList)
  |_=>none
 |_=>none
theorem Fh{b:Builtin}{l:List Operand}{ts:List TypeId}(h:Un o=some (b,l,ts)): ∃c:Call,o.op= .call c∧c.callee= .builtin b∧c.args=l.toArray∧c.argTypes=ts.toArray:=by
 unfold Un at h
 split at h
 ·rename_i c ho
  split at h
  ·rename_i b' hb
   simp only[Option.some.injEq,Prod.mk.injEq]at h
   obtain⟨rfl,rfl,rfl⟩:=h
   exact⟨c,ho,hb,by simp,by simp⟩
  ·cases h
 ·cases h
def wR(P:Program)(x:AO)(o:Oper):Bool:=match Un o with
 |some (.len,[y],[t])=>Bc x y&&(LK P t).isSome
 |_=>false
theorem ok_len{x:AO}(h:wR P x o=true):Dq P tb (.len x) o:=by
 intro cl C f a nt r hc I F hr
 unfold wR at h
 split at h
 ·rename_i y t hb
  obtain⟨c,ho,hcal,ha,ht⟩:=Fh hb
  simp only[Bool.and_eq_true]at h
  obtain⟨e,he⟩:=Option.isSome_iff_exists.1 h.2
  simp only[Bp]at hr
  obtain⟨n,hn,rfl⟩:=Option.map_eq_some_iff.1 hr
  exact .inl (sim_len I F ho hcal (by rw[ht];rfl) ha h.1 hn (DU he))
 ·cases h
def mB(P:Program)(x:AO)(o:Oper):Bool:=match Un o with
 |some (.len,[y],[t])=>Bc x y&&QV P t
 |_=>false
theorem ok_lens{x:AO}(h:mB P x o=true):Dq P tb (.lens x) o:=by
 intro cl C f a nt r hc I F hr
 unfold mB at h
 split at h
 ·rename_i y t hb
  obtain⟨c,ho,hcal,ha,ht⟩:=Fh hb
  simp only[Bool.and_eq_true]at h
  simp only[Bp]at hr
  split at hr
  ·rename_i l hl
   simp only[Option.some.injEq]at hr
   subst hr
   exact .inl (uY I F ho hcal (by rw[ht];rfl) ha h.1 hl (Gt h.2))
  ·cases hr
 ·cases h
def okFa(P:Program)(off:Nat)(x:AO)(o:Oper):Bool:=match o.op with
 | .fieldAddr t y i=>match(VR P t).bind (·[i]?)with
  |some fd=>Bc x y&&off==fd.offset&&(P.info? fd.type).isSome&&decide (0<P.cellsOf fd.type)
  |none=>false
 |_=>false
theorem ok_fa{off:Nat}{x:AO}(h:okFa P off x o=true):Dq P tb (.fa off x) o:=by
 intro cl C f a nt r hc I F hr
 unfold okFa at h
 split at h
 ·rename_i t y i ho
  split at h
  ·rename_i fd hfd
   obtain⟨fs,hs,hf⟩:=Option.bind_eq_some_iff.1 hfd
   simp only[Bool.and_eq_true,beq_iff_eq,decide_eq_true_eq]at h
   obtain⟨⟨⟨h1,rfl⟩,h2⟩,h3⟩:=h
   exact .inl (sim_fa I F ho (RM hs) hf h2 (by omega) h1 hr)
  ·cases h
 ·cases h
def wW(P:Program)(ag:Bool)(off n:Nat)(x:AO)(o:Oper):Bool:=match o.op with
 | .field t y i=>match(VR P t).bind (·[i]?)with
  |some fd=>Bc x y&&off==fd.offset&&(P.underlying fd.type).isSome&&ag==EJ P fd.type&&n==P.cellsOf fd.type
  |none=>false
 |_=>false
theorem ok_fld{ag:Bool}{off n:Nat}{x:AO}(h:wW P ag off n x o=true):Dq P tb (.fld ag off n x) o:=by
 intro cl C f a nt r hc I F hr
 unfold wW at h
 split at h
 ·rename_i t y i ho
  split at h
  ·rename_i fd hfd
   obtain⟨fs,hs,hf⟩:=Option.bind_eq_some_iff.1 hfd
   simp only[Bool.and_eq_true,beq_iff_eq]at h
   obtain⟨⟨⟨⟨h1,rfl⟩,h2⟩,rfl⟩,rfl⟩:=h
   simp only[Bp]at hr
   split at hr
   ·rename_i cs hv
    split at hr
    ·rename_i hle
     simp only[val]at hr
     obtain⟨v,hv',rfl⟩:=Option.map_eq_some_iff.1 hr
     exact .inl (sim_fld I F ho (RM hs) hf h2 h1 hv hle hv')
    ·cases hr
   ·cases hr
  ·cases h
 ·cases h
def wU(P:Program)(sz:Nat)(x i:AO)(o:Oper):Bool:=match o.op with
 | .indexAddr t y j=>match LK P t with
  |some e=>Bc x y&&Bc i j&&(P.info? e).isSome&&sz==P.cellsOf e
  |none=>false
 |_=>false
theorem ok_ias{sz:Nat}{x i:AO}(h:wU P sz x i o=true):Dq P tb (.ias sz x i) o:=by
 intro cl C f a nt r hc I F hr
 unfold wU at h
 split at h
 ·rename_i t y j ho
  split at h
  ·rename_i e he
   simp only[Bool.and_eq_true,beq_iff_eq]at h
   obtain⟨⟨⟨h1,h2⟩,h3⟩,rfl⟩:=h
   simp only[Bp]at hr
   obtain⟨n,hn,hr⟩:=Option.bind_eq_some_iff.1 hr
   split at hr
   ·rename_i h0
    exact .inl (sim_ias I F ho (DU he) h3 h1 h2 hn h0 hr)
   ·cases hr
  ·cases h
 ·cases h
def wV(P:Program)(len sz:Nat)(x i:AO)(o:Oper):Bool:=match o.op with
 | .indexAddr t y j=>match oG P t with
  |some (n,e)=>Bc x y&&Bc i j&&(P.info? e).isSome&&len==n&&sz==P.cellsOf e
  |none=>false
 |_=>false
theorem ok_iaa{len sz:Nat}{x i:AO}(h:wV P len sz x i o=true):Dq P tb (.iaa len sz x i) o:=by
 intro cl C f a nt r hc I F hr
 unfold wV at h
 split at h
 ·rename_i t y j ho
  split at h
  ·rename_i n e he
   simp only[Bool.and_eq_true,beq_iff_eq]at h
   obtain⟨⟨⟨⟨h1,h2⟩,h3⟩,rfl⟩,rfl⟩:=h
   simp only[Bp]at hr
   obtain⟨m,hm,hr⟩:=Option.bind_eq_some_iff.1 hr
   split at hr
   ·rename_i h0
    exact .inl (sim_iaa I F ho (N2 he) h3 h1 h2 hm h0 hr)
   ·cases hr
  ·cases h
 ·cases h
def wT(P:Program)(len sz:Nat)(ag:Bool)(x i:AO)(o:Oper):Bool:=match o.op with
 | .index t y j=>match oG P t with
  |some (n,e)=>Bc x y&&Bc i j&&(P.underlying e).isSome&&len==n&&sz==P.cellsOf e&&ag==EJ P e
  |none=>false
 |_=>false
theorem ok_ixa{len sz:Nat}{ag:Bool}{x i:AO}(h:wT P len sz ag x i o=true):Dq P tb (.ixa len sz ag x i) o:=by
 intro cl C f a nt r hc I F hr
 unfold wT at h
 split at h
 ·rename_i t y j ho
  split at h
  ·rename_i n e he
   simp only[Bool.and_eq_true,beq_iff_eq]at h
   obtain⟨⟨⟨⟨⟨h1,h2⟩,h3⟩,rfl⟩,rfl⟩,rfl⟩:=h
   simp only[Bp]at hr
   obtain⟨m,hm,hr⟩:=Option.bind_eq_some_iff.1 hr
   split at hr
   ·rename_i cs hv
    split at hr
    ·rename_i h0
     simp only[val]at hr
     obtain⟨v,hv',rfl⟩:=Option.map_eq_some_iff.1 hr
     exact .inl (sim_ixa I F ho (N2 he) h3 h1 h2 hm hv ⟨h0.1,h0.2.1⟩ h0.2.2 hv')
    ·cases hr
   ·cases hr
  ·cases h
 ·cases h
def wS(P:Program)(x i:AO)(o:Oper):Bool:=match o.op with
 | .index t y j=>Bc x y&&Bc i j&&QV P t
 |_=>false
theorem ok_ixs{x i:AO}(h:wS P x i o=true):Dq P tb (.ixs x i) o:=by
 intro cl C f a nt r hc I F hr
 unfold wS at h
 split at h
 ·rename_i t y j ho
  simp only[Bool.and_eq_true]at h
  obtain⟨⟨h1,h2⟩,h3⟩:=h
  simp only[Bp]at hr
  obtain⟨n,hn,hr⟩:=Option.bind_eq_some_iff.1 hr
  split at hr
  ·rename_i l hl
   split at hr
   ·rename_i h0
    obtain⟨v,hv',rfl⟩:=Option.map_eq_some_iff.1 hr
    exact .inl (sim_ixs I F ho (Gt h3) h1 h2 hn hl h0 hv')
   ·cases hr
  ·cases hr
 ·cases h
def wF(P:Program)(x:AO)(lo hi:Option AO)(o:Oper):Bool:=match o.op with
 | .slice t y ylo yhi none=>Bc x y&&Z7 lo ylo&&Z7 hi yhi&&QV P t
 |_=>false
theorem ok_sls{x:AO}{lo hi:Option AO}(h:wF P x lo hi o=true):Dq P tb (.sls x lo hi) o:=by
 intro cl C f a nt r hc I F hr
 unfold wF at h
 split at h
 ·rename_i t y ylo yhi ho
  simp only[Bool.and_eq_true]at h
  obtain⟨⟨⟨h1,h2⟩,h3⟩,h4⟩:=h
  simp only[Bp]at hr
  split at hr
  ·rename_i l hl
   obtain⟨⟨p,q⟩,hb,rfl⟩:=Option.map_eq_some_iff.1 hr
   exact .inl (sim_sls I F ho (Gt h4) h1 h2 h3 hl hb)
  ·cases hr
 ·cases h
def wG(P:Program)(sz:Nat)(x:AO)(lo hi:Option AO)(o:Oper):Bool:=match o.op with
 | .slice t y ylo yhi none=>match LK P t with
  |some e=>Bc x y&&Z7 lo ylo&&Z7 hi yhi&&(P.info? e).isSome&&sz==P.cellsOf e
  |none=>false
 |_=>false
theorem ok_sll{sz:Nat}{x:AO}{lo hi:Option AO}(h:wG P sz x lo hi o=true):Dq P tb (.sll sz x lo hi) o:=by
 intro cl C f a nt r hc I F hr
 unfold wG at h
 split at h
 ·rename_i t y ylo yhi ho
  split at h
  ·rename_i e he
   simp only[Bool.and_eq_true,beq_iff_eq]at h
   obtain⟨⟨⟨⟨h1,h2⟩,h3⟩,h4⟩,rfl⟩:=h
   simp only[Bp]at hr
   obtain⟨len,hl,hr⟩:=Option.bind_eq_some_iff.1 hr
   obtain⟨⟨p,q⟩,hb,hr⟩:=Option.bind_eq_some_iff.1 hr
   exact .inl (sim_sll I F ho (DU he) h4 h1 h2 h3 hl hb hr)
  ·cases h
 ·cases h
def zY(P:Program)(t:TypeId):Option (Nat×TypeId):=match P.underlying t with
 |some (.array n e)=>some (n,e)
 |some (.pointer u)=>oG P u
 |_=>none
theorem oF{t e:TypeId}{n:Nat}(h:zY P t=some (n,e)):P.underlying t=some (.array n e)∨ ∃u,P.underlying t=some (.pointer u)∧P.underlying u=some (.array n e):=by
 unfold zY at h
 split at h
 ·rename_i n' e' hu;rw[hu];simp at h;left;rw[h.1,h.2]
 ·rename_i u hu;exact .inr ⟨u,hu,N2 h⟩
 ·cases h
def wH(P:Program)(n sz:Nat)(x:AO)(lo hi:Option AO)(o:Oper):Bool:=match o.op with
 | .slice t y ylo yhi none=>match zY P t with
  |some (m,e)=>Bc x y&&Z7 lo ylo&&Z7 hi yhi&&(P.info? e).isSome&&n==m&&sz==P.cellsOf e&&decide (0<sz)
  |none=>false
 |_=>false
theorem ok_sla{n sz:Nat}{x:AO}{lo hi:Option AO}(h:wH P n sz x lo hi o=true):Dq P tb (.sla n sz x lo hi) o:=by
 intro cl C f a nt r hc I F hr
 unfold wH at h
 split at h
 ·rename_i t y ylo yhi ho
  split at h
  ·rename_i m e he
   simp only[Bool.and_eq_true,beq_iff_eq,decide_eq_true_eq]at h
   obtain⟨⟨⟨⟨⟨⟨h1,h2⟩,h3⟩,h4⟩,rfl⟩,rfl⟩,h5⟩:=h
   simp only[Bp]at hr
   obtain⟨⟨p,q⟩,hb,hr⟩:=Option.bind_eq_some_iff.1 hr
   exact .inl (sim_sla I F ho h4 h5 (oF he) h1 h2 h3 hb hr)
  ·cases h
 ·cases h
def xM(P:Program)(t0 sz bytes:Nat)(s x:AO)(o:Oper):Bool:=match Un o with
 |some (.append,[y1,y2],[t,u])=>Bc s y1&&Bc x y2&&((LK P u).isSome||QV P u)&&match LK P t with
  |some e=>sz==P.cellsOf e&&decide (0<sz)&&match P.info? e with
   |some i=>bytes==i.bytes&&decide (0<bytes)&&match i.zero with
    |some z=>z.cells.size==sz&&Nat.beq t0 e
    |none=>false
   |none=>false
  |none=>false
 |_=>false
theorem ok_app{t0 sz bytes:Nat}{s x:AO}(h:xM P t0 sz bytes s x o=true):Dq P tb (.app t0 sz bytes s x) o:=by
 intro cl C f a nt r hc I F hr
 unfold xM at h
 split at h
 ·rename_i y1 y2 t u hb
  obtain⟨c,ho,hcal,ha,ht⟩:=Fh hb
  simp only[Bool.and_eq_true,Bool.or_eq_true]at h
  obtain⟨⟨⟨h1,h2⟩,h3⟩,h4⟩:=h
  split at h4
  ·rename_i e he
   simp only[Bool.and_eq_true,beq_iff_eq,decide_eq_true_eq]at h4
   obtain⟨⟨rfl,h5⟩,h6⟩:=h4
   split at h6
   ·rename_i i hi
    simp only[Bool.and_eq_true,beq_iff_eq,decide_eq_true_eq]at h6
    obtain⟨⟨rfl,h7⟩,h8⟩:=h6
    split at h8
    ·rename_i z hz
     rw[Bool.and_eq_true]at h8
     obtain rfl:=Nat.eq_of_beq_eq_true h8.2
     replace h8:=h8.1
     simp only[beq_iff_eq]at h8
     simp only[Bp]at hr
     obtain⟨new,hn,hr⟩:=Option.bind_eq_some_iff.1 hr
     refine .inl (sim_app I F ho hcal (by rw[ha]) (by rw[ht]) (DU he) ?_ hi hz h8 h5 h7 h1 h2 hn hr)
     rcases h3 with h3|h3
     ·obtain⟨e',he'⟩:=Option.isSome_iff_exists.1 h3
      exact⟨_,DU he',fun k hk=>(by cases hk)⟩
     ·exact⟨_,Gt h3,fun k hk=>(by cases hk)⟩
    ·cases h8
   ·cases h6
  ·cases h4
 ·cases h
def xH(P:Program)(sz:Nat)(d x:AO)(o:Oper):Bool:=match Un o with
 |some (.copy,[y1,y2],t::_)=>Bc d y1&&Bc x y2&&match LK P t with
  |some e=>sz==P.cellsOf e&&decide (0<sz)&&(P.info? e).isSome
  |none=>false
 |_=>false
theorem ok_cpy{sz:Nat}{d x:AO}(h:xH P sz d x o=true):Dq P tb (.cpy sz d x) o:=by
 intro cl C f a nt r hc I F hr
 unfold xH at h
 split at h
 ·rename_i y1 y2 t ts hb
  obtain⟨c,ho,hcal,ha,ht⟩:=Fh hb
  simp only[Bool.and_eq_true]at h
  obtain⟨⟨h1,h2⟩,h4⟩:=h
  split at h4
  ·rename_i e he
   simp only[Bool.and_eq_true,beq_iff_eq,decide_eq_true_eq]at h4
   obtain⟨⟨rfl,h5⟩,h6⟩:=h4
   simp only[Bp]at hr
   obtain⟨src,hn,hr⟩:=Option.bind_eq_some_iff.1 hr
   exact .inl (sim_cpy I F ho hcal ha ht (by simp) (DU he) h6 h5 h1 h2 hn hr)
  ·cases h4
 ·cases h
theorem ok_die:Dq P tb .die o:=by
 intro cl C f a nt r hc I F hr
 simp[Bp]at hr
def mG(g:Nat)(xs:List AO)(o:Oper):Bool:=match o.op with
 | .call c=>match c.callee with
  | .value (.func g')=>g==g'&&P2 xs c.args.toList
  |_=>false
 |_=>false
theorem ok_call{g:Nat}{xs:List AO}(h:mG g xs o=true):Dq P tb (.call g xs) o:=by
 intro cl C f a nt r hc I F hr
 unfold mG at h
 split at h
 ·rename_i c ho
  split at h
  ·rename_i g' hcal
   simp only[Bool.and_eq_true,beq_iff_eq]at h
   obtain⟨rfl,h1⟩:=h
   simp only[Bp]at hr
   have:=hc g C _ _ r I (Na I F h1) hr
   have e:(execOp a.eval o).run P C.w=(callFunc g (c.args.toList.map a.eval).toArray).run P C.w:=by
    simp only[execOp,ho,resolve,hcal,Act.eval,Deferred.ofValue,invoke,Sem.run_bind,Sem.run_pure,Result.andThen_ok]
    congr 2
    rw[←Array.toList_inj]
    simp
   rw[e]
   exact this
  ·cases h
 ·cases h
def cK(x:AO)(xs:List AO)(o:Oper):Bool:=match o.op with
 | .call c=>match c.callee with
  | .value y=>Bc x y&&P2 xs c.args.toList
  |_=>false
 |_=>false
theorem wB{x:AO}{xs:List AO}(h:cK x xs o=true):Dq P tb (.callv x xs) o:=by
 intro cl C f a nt r hc I F hr
 unfold cK at h
 split at h
 ·rename_i c ho
  split at h
  ·rename_i y hcal
   simp only[Bool.and_eq_true]at h
   obtain⟨h1,h2⟩:=h
   simp only[Bp]at hr
   split at hr
   ·rename_i g first captured hv
    have rx:=AH I F h1
    rw[hv]at rx
    obtain⟨p,q,e,r1,r2⟩:=rx
    have:=hc g C _ _ r I (AX.app (AX.app r1 (Na I F h2)) r2) hr
    have e':(execOp a.eval o).run P C.w=(callFunc g (p++c.args.toList.map a.eval++q).toArray).run P C.w:=by
     simp only[execOp,ho,resolve,hcal,e,Deferred.ofValue,invoke,Sem.run_bind,Sem.run_pure,Result.andThen_ok]
     congr 2
     simp
    rw[e']
    exact this
   ·cases hr
  ·cases h
 ·cases h
def okEq(P:Program)(neg:Bool)(ek:EK)(x y:AO)(o:Oper):Bool:=match o.op with
 | .binOp op t u v _=>decide (op=if neg then .neq else .eql)&&okEK P ek t&&Bc x u&&Bc y v
 |_=>false
theorem ok_eq{neg:Bool}{ek:EK}{x y:AO}(h:okEq P neg ek x y o=true):Dq P tb (.eq neg ek x y) o:=by
 intro cl C f a nt r hc I F hr
 unfold okEq at h
 split at h
 ·rename_i op t u v t' ho
  simp only[Bool.and_eq_true,decide_eq_true_eq]at h
  obtain⟨⟨⟨h0,h1⟩,h2⟩,h3⟩:=h
  simp only[Bp,val]at hr
  obtain⟨b,hb,rfl⟩:=Option.map_eq_some_iff.1 hr
  obtain⟨e,he,rfl⟩:=Option.map_eq_some_iff.1 hb
  exact .inl (sim_eq I F ho h0 h1 h2 h3 he)
 ·cases h
def xK(P:Program)(zero:List AV)(ps:List (Nat×Nat×AO))(o:Oper):Bool:=match o.op with
 | .build t ys=>match plc? P t,(P.info? t).bind (·.zero)with
  |some place,some z=>NZ zero z.cells.toList&&KX place ps ys.toList
  |_,_=>false
 |_=>false
theorem ok_bld{zero:List AV}{ps:List (Nat×Nat×AO)}(h:xK P zero ps o=true):Dq P tb (.bld zero ps) o:=by
 intro cl C f a nt r hc I F hr
 unfold xK at h
 split at h
 ·rename_i t ys ho
  split at h
  ·rename_i place z hp hz
   obtain⟨i,hi,hz⟩:=Option.bind_eq_some_iff.1 hz
   simp only[Bool.and_eq_true]at h
   simp only[Bp,val]at hr
   obtain⟨v,hv,rfl⟩:=Option.map_eq_some_iff.1 hr
   obtain⟨cs,hcs,rfl⟩:=Option.map_eq_some_iff.1 hv
   exact .inl (sim_bld I F ho hp hi hz h.1 h.2 hcs)
  ·cases h
 ·cases h
def Z9(P:Program)(sz:Nat)(zero:List (List AV))(ps:List (Nat×AO))(o:Oper):Bool:=match o.op with
 | .buildSlice t len ys=>match LK P t with
  |some e=>match(P.info? e).bind (·.zero)with
   |some z=>sz==P.cellsOf e&&decide (z.cells.size=P.cellsOf e)&&decide (0<P.cellsOf e)&&decide (len*P.cellsOf e≤2^24)&&decide (zero.length=len)&&zero.all (NZ · z.cells.toList)&&KY sz ps ys.toList
   |none=>false
  |none=>false
 |_=>false
def mD(P:Program)(t0:Nat)(o:Oper):Bool:=match o.op with
 | .buildSlice t _ _=>match LK P t with
  |some e=>Nat.beq t0 e
  |none=>false
 |_=>false
theorem ok_bls{t0 sz:Nat}{zero:List (List AV)}{ps:List (Nat×AO)}(h:(Z9 P sz zero ps o&&mD P t0 o)=true):Dq P tb (.bls t0 sz zero ps) o:=by
 intro cl C f a nt r hc I F hr
 rw[Bool.and_eq_true]at h
 obtain⟨h,hl⟩:=h
 unfold Z9 at h
 unfold mD at hl
 split at h
 ·rename_i t len ys ho
  split at h
  ·rename_i e he
   split at h
   ·rename_i z hz
    obtain⟨i,hi,hz2⟩:=Option.bind_eq_some_iff.1 hz
    simp only[Bool.and_eq_true,beq_iff_eq,decide_eq_true_eq]at h
    obtain⟨⟨⟨⟨⟨⟨rfl,h1⟩,h2⟩,h3⟩,h4⟩,h5⟩,h6⟩:=h
    simp only[Bp]at hr
    obtain⟨els,hv,rfl⟩:=Option.map_eq_some_iff.1 hr
    simp only[ho,he]at hl
    obtain rfl:=Nat.eq_of_beq_eq_true hl
    exact .inl (sim_bls I F ho (DU he) hi hz2 h1 h2 h3 h4 h5 h6 hv)
   ·cases h
  ·cases h
 ·cases h
theorem ok_bll{sz:Nat}{zero:List (List AV)}{ps:List (Nat×AO)}(h:Z9 P sz zero ps o=true):Dq P tb (.bll sz zero ps) o:=by
 intro cl C f a nt r hc I F hr
 unfold Z9 at h
 split at h
 ·rename_i t len ys ho
  split at h
  ·rename_i e he
   split at h
   ·rename_i z hz
    obtain⟨i,hi,hz⟩:=Option.bind_eq_some_iff.1 hz
    simp only[Bool.and_eq_true,beq_iff_eq,decide_eq_true_eq]at h
    obtain⟨⟨⟨⟨⟨⟨rfl,h1⟩,h2⟩,h3⟩,h4⟩,h5⟩,h6⟩:=h
    simp only[Bp,val]at hr
    obtain⟨u,hu,rfl⟩:=Option.map_eq_some_iff.1 hr
    obtain⟨els,hv,rfl⟩:=Option.map_eq_some_iff.1 hu
    exact .inl (sim_bll I F ho (DU he) hi hz h1 h2 h3 h4 h5 h6 hv)
   ·cases h
  ·cases h
 ·cases h
def wI(P:Program)(n sz:Nat)(x:AO)(o:Oper):Bool:=match o.op with
 | .sliceToArrayPointer t y=>match oG P t with
  |some (m,e)=>Bc x y&&n==m&&sz==P.cellsOf e&&decide (0<n)
  |none=>false
 |_=>false
theorem ok_s2a{n sz:Nat}{x:AO}(h:wI P n sz x o=true):Dq P tb (.s2a n sz x) o:=by
 intro cl C f a nt r hc I F hr
 unfold wI at h
 split at h
 ·rename_i t y ho
  split at h
  ·rename_i m e he
   simp only[Bool.and_eq_true,beq_iff_eq,decide_eq_true_eq]at h
   obtain⟨⟨⟨h1,rfl⟩,rfl⟩,h2⟩:=h
   exact .inl (sim_s2a I F ho (N2 he) h2 h1 hr)
  ·cases h
 ·cases h
def wM(mx:Bool)(x y:AO)(o:Oper):Bool:=match Un o with
 |some (.max,[u,v],_)=>mx&&Bc x u&&Bc y v
 |some (.min,[u,v],_)=> !mx&&Bc x u&&Bc y v
 |_=>false
theorem ok_mnx{mx:Bool}{x y:AO}(h:wM mx x y o=true):Dq P tb (.mnx mx x y) o:=by
 intro cl C f a nt r hc I F hr
 simp only[Bp]at hr
 split at hr
 ·rename_i k p k' q e1 e2
  split at hr
  ·rename_i hk
   subst hk
   simp only[Option.some.injEq]at hr
   subst hr
   unfold wM at h
   split at h
   ·rename_i u v ts hb
    obtain⟨c,ho,hcal,ha,ht⟩:=Fh hb
    simp only[Bool.and_eq_true]at h
    obtain⟨⟨rfl,h1⟩,h2⟩:=h
    exact .inl (oW (mx:=true) I F ho hcal (by rw[ha]) h1 h2 e1 e2)
   ·rename_i u v ts hb
    obtain⟨c,ho,hcal,ha,ht⟩:=Fh hb
    simp only[Bool.and_eq_true,Bool.not_eq_true']at h
    obtain⟨⟨rfl,h1⟩,h2⟩:=h
    exact .inl (oW (mx:=false) I F ho hcal (by rw[ha]) h1 h2 e1 e2)
   ·cases h
  ·cases hr
 ·cases hr
def gV(P:Program)(t:TypeId):Option (TypeId×TypeId):=match P.underlying t with
 |some (.map k e)=>some (k,e)
 |_=>none
theorem Qi{t k e:TypeId}(h:gV P t=some (k,e)):P.underlying t=some (.map k e):=by
 unfold gV at h
 split at h
 ·rename_i k' e' hu;rw[hu];simp at h;rw[h.1,h.2]
 ·cases h
def wQ(P:Program)(ek:EK)(zero:AV)(ok:Bool)(m k:AO)(o:Oper):Bool:=match o.op with
 | .lookup t y1 y2 ok'=>ok==ok'&&Bc m y1&&Bc k y2&&match gV P t with
  |some (kt,e)=>LZ P ek kt&&match(P.info? e).bind (·.zero)with
   |some z=>isV zero z
   |none=>false
  |none=>false
 |_=>false
theorem ok_lkp{ek:EK}{zero:AV}{ok:Bool}{m k:AO}(h:wQ P ek zero ok m k o=true):Dq P tb (.lkp ek zero ok m k) o:=by
 intro cl C f a nt r hc I F hr
 unfold wQ at h
 split at h
 ·rename_i t y1 y2 ok' ho
  simp only[Bool.and_eq_true,beq_iff_eq]at h
  obtain⟨⟨⟨rfl,h1⟩,h2⟩,h3⟩:=h
  split at h3
  ·rename_i kt e hm
   simp only[Bool.and_eq_true]at h3
   obtain⟨h4,h5⟩:=h3
   split at h5
   ·rename_i z hz
    obtain⟨i,hi,hz⟩:=Option.bind_eq_some_iff.1 hz
    simp only[Bp]at hr
    split at hr
    ·rename_i hko
     obtain⟨es,he,hr⟩:=Option.bind_eq_some_iff.1 hr
     obtain⟨q,hq,rfl⟩:=Option.map_eq_some_iff.1 hr
     exact .inl (sim_lkp I F ho (Qi hm) hi hz h5 h4 h1 h2 he hko hq)
    ·cases hr
   ·cases h5
  ·cases h3
 ·cases h
def wL(P:Program)(ek:EK)(m k v:AO)(o:Oper):Bool:=match o.op with
 | .mapUpdate t y1 y2 y3=>Bc m y1&&Bc k y2&&Bc v y3&&match gV P t with
  |some (kt,_)=>LZ P ek kt
  |none=>false
 | .insert t y1 y2 y3=>Bc m y1&&Bc k y2&&Bc v y3&&match gV P t with
  |some (kt,_)=>LZ P ek kt
  |none=>false
 |_=>false
theorem ok_mup{ek:EK}{m k v:AO}(h:wL P ek m k v o=true):Dq P tb (.mup ek m k v) o:=by
 intro cl C f a nt r hc I F hr
 have main: ∀{t:TypeId} {y1 y2 y3:Operand},(o.op= .mapUpdate t y1 y2 y3∨o.op= .insert t y1 y2 y3)→(Bc m y1&&Bc k y2&&Bc v y3&&(match gV P t with
  |some (kt,_)=>LZ P ek kt
  |none=>false))=true→qX P tb C r ((execOp a.eval o).run P C.w):=by
  intro t y1 y2 y3 ho h
  simp only[Bool.and_eq_true]at h
  obtain⟨⟨⟨h1,h2⟩,h3⟩,h4⟩:=h
  split at h4
  ·rename_i kt e hm
   simp only[Bp]at hr
   split at hr
   ·rename_i id hid
    split at hr
    ·rename_i hko
     obtain⟨es,he,hr⟩:=Option.bind_eq_some_iff.1 hr
     obtain⟨q,hq,rfl⟩:=Option.map_eq_some_iff.1 hr
     exact .inl (sim_mup I F ho (Qi hm) h4 h1 h2 h3 hid he hko hq)
    ·cases hr
   ·cases hr
  ·cases h4
 unfold wL at h
 split at h
 ·rename_i t y1 y2 y3 ho;exact main (.inl ho) h
 ·rename_i t y1 y2 y3 ho;exact main (.inr ho) h
 ·cases h
def wO(o:Oper):Bool:=match o.op with
 | .makeMap _ none=>true
 |_=>false
theorem ok_mkm(h:wO o=true):Dq P tb .mkm o:=by
 intro cl C f a nt r hc I F hr
 unfold wO at h
 split at h
 ·rename_i t ho
  simp only[Bp,Option.some.injEq]at hr
  subst hr
  exact .inl (sim_mkm I ho)
 ·cases h
def mF(P:Program)(x:AO)(o:Oper):Bool:=match Un o with
 |some (.cap,[y],[t])=>Bc x y&&(LK P t).isSome
 |_=>false
theorem ok_capn{x:AO}(h:mF P x o=true):Dq P tb (.capn x) o:=by
 intro cl C f a nt r hc I F hr
 unfold mF at h
 split at h
 ·rename_i y t hb
  obtain⟨c,ho,hcal,ha,ht⟩:=Fh hb
  simp only[Bool.and_eq_true]at h
  obtain⟨e,he⟩:=Option.isSome_iff_exists.1 h.2
  simp only[Bp]at hr
  split at hr
  ·rename_i hn
   cases hr
   exact .inl (vC I F ho hcal (by rw[ht];rfl) ha h.1 hn (DU he))
  ·cases hr
 ·cases h
def mC(P:Program)(x:AO)(o:Oper):Bool:=match Un o with
 |some (.len,[y],[t])=>Bc x y&&(gV P t).isSome
 |_=>false
theorem ok_lenm{x:AO}(h:mC P x o=true):Dq P tb (.lenm x) o:=by
 intro cl C f a nt r hc I F hr
 unfold mC at h
 split at h
 ·rename_i y t hb
  obtain⟨c,ho,hcal,ha,ht⟩:=Fh hb
  simp only[Bool.and_eq_true]at h
  obtain⟨⟨kt,e⟩,he⟩:=Option.isSome_iff_exists.1 h.2
  simp only[Bp]at hr
  obtain⟨es,hes,rfl⟩:=Option.map_eq_some_iff.1 hr
  exact .inl (uZ I F ho hcal (by rw[ht];rfl) ha h.1 (Qi he) hes)
 ·cases h
def wZ(P:Program)(ek:EK)(m k:AO)(o:Oper):Bool:=match Un o with
 |some (.delete,[y1,y2],t::_)=>Bc m y1&&Bc k y2&&match gV P t with
  |some (kt,_)=>LZ P ek kt
  |none=>false
 |_=>false
theorem ok_del{ek:EK}{m k:AO}(h:wZ P ek m k o=true):Dq P tb (.del ek m k) o:=by
 intro cl C f a nt r hc I F hr
 unfold wZ at h
 split at h
 ·rename_i y1 y2 t ts hb
  obtain⟨c,ho,hcal,ha,ht⟩:=Fh hb
  simp only[Bool.and_eq_true]at h
  obtain⟨⟨h1,h2⟩,h4⟩:=h
  split at h4
  ·rename_i kt e hm
   simp only[Bp]at hr
   by_cases hko:Mc ek (eval tb f k)=true
   ·simp only[hko,if_true]at hr
    exact .inl (sim_del I F ho hcal ha ht (Qi hm) h4 h1 h2 hko hr)
   ·simp only[hko,if_false,Bool.false_eq_true]at hr
    split at hr<;>cases hr
  ·cases h4
 ·cases h
def xI(P:Program)(zero:List AV)(x:AO)(o:Oper):Bool:=match Un o with
 |some (.clear,[y],t::_)=>Bc x y&&match P.underlying t with
  |some (.map _ _)=>zero.isEmpty
  |some (.slice e)=>match(P.info? e).bind (·.zero)with
   |some z=>NZ zero z.cells.toList
   |none=>false
  |_=>false
 |_=>false
theorem ok_clr{zero:List AV}{x:AO}(h:xI P zero x o=true):Dq P tb (.clr zero x) o:=by
 intro cl C f a nt r hc I F hr
 unfold xI at h
 split at h
 ·rename_i y t ts hb
  obtain⟨c,ho,hcal,ha,ht⟩:=Fh hb
  simp only[Bool.and_eq_true]at h
  obtain⟨h1,h2⟩:=h
  simp only[Bp]at hr
  split at h2
  ·rename_i k e hu
   exact .inl (oX I F ho hcal ha ht (.inl ⟨k,e,hu,by simpa using h2⟩) h1 hr)
  ·rename_i e hu
   split at h2
   ·rename_i z hz
    obtain⟨i,hi,hz⟩:=Option.bind_eq_some_iff.1 hz
    exact .inl (oX I F ho hcal ha ht (.inr ⟨e,i,z,hu,hi,hz,h2⟩) h1 hr)
   ·cases h2
  ·cases h2
 ·cases h
def wN(P:Program)(t0 sz bytes:Nat)(zero:List AV)(x1 x2:AO)(o:Oper):Bool:=match o.op with
 | .makeSlice t y1 y2=>match LK P t with
  |some e=>match P.info? e with
   |some i=>match i.zero with
    |some z=>Bc x1 y1&&Bc x2 y2&&sz==i.size&&bytes==i.bytes&&NZ zero z.cells.toList&&decide (i.size=z.cells.size)&&decide (0<i.size)&&decide (0<i.bytes)&&Nat.beq t0 e
    |none=>false
   |none=>false
  |none=>false
 |_=>false
theorem ok_mks{t0 sz bytes:Nat}{zero:List AV}{x1 x2:AO}(h:wN P t0 sz bytes zero x1 x2 o=true):Dq P tb (.mks t0 sz bytes zero x1 x2) o:=by
 intro cl C f a nt r hc I F hr
 unfold wN at h
 split at h
 ·rename_i t y1 y2 ho
  split at h
  ·rename_i e he
   split at h
   ·rename_i i hi
    split at h
    ·rename_i z hz
     simp only[Bool.and_eq_true,beq_iff_eq,decide_eq_true_eq]at h
     obtain⟨⟨⟨⟨⟨⟨⟨⟨h1,h2⟩,rfl⟩,rfl⟩,h5⟩,h6⟩,h7⟩,h8⟩,hl⟩:=h
     obtain rfl:=Nat.eq_of_beq_eq_true hl
     simp only[Bp]at hr
     obtain⟨l,hl,hr⟩:=Option.bind_eq_some_iff.1 hr
     obtain⟨c,hcc,hr⟩:=Option.bind_eq_some_iff.1 hr
     split at hr
     ·rename_i hcond
      cases hr
      refine .inl (sim_mks I F ho (DU he) hi hz h5 h6 h7 h1 h2 hl hcc hcond ?_)
      have h9:=hcond.2.2
      unfold Be at h9
      have h10:c≤c*i.bytes:=by
       rcases Int.lt_or_le c 0 with hneg|hpos
       ·have:=hcond.1;have:=hcond.2.1;omega
       ·have:c*1≤c*i.bytes:=Int.mul_le_mul_of_nonneg_left (by omega) hpos
        omega
      omega
     ·cases hr
    ·cases h
   ·cases h
  ·cases h
 ·cases h
def xG(P:Program)(t0:Nat)(x:AO)(o:Oper):Bool:=match o.op with
 | .convert s d y=>QV P s&&(match LK P d with
  |some e=>(match P.underlying e with|some (.int .u8)=>Nat.beq t0 e|_=>false)
  |none=>false)&&Bc x y
 |_=>false
theorem ok_cvb{t0:Nat}{x:AO}(h:xG P t0 x o=true):Dq P tb (.cvb t0 x) o:=by
 intro cl C f a nt r hc I F hr
 unfold xG at h
 split at h
 ·rename_i s d y ho
  simp only[Bool.and_eq_true]at h
  obtain⟨⟨h1,h2⟩,h3⟩:=h
  split at h2
  ·rename_i e he
   split at h2
   ·rename_i hu
    simp only[Bp]at hr
    split at hr
    ·rename_i l hl
     cases hr
     obtain rfl:=Nat.eq_of_beq_eq_true h2
     exact .inl (sim_cvb I F ho (Gt h1) (DU he) hu h3 hl)
    ·cases hr
   ·cases h2
  ·cases h2
 ·cases h
def xD(P:Program)(x:AO)(o:Oper):Bool:=match o.op with
 | .convert s d y=>Nat.beq s d&&(match LK P s with
  |some e=>(match P.underlying e with|some (.int .u8)=>true|_=>false)
  |none=>false)&&Bc x y
 |_=>false
theorem ok_cvr{x:AO}(h:xD P x o=true):Dq P tb (.cvr x) o:=by
 intro cl C f a nt r hc I F hr
 unfold xD at h
 split at h
 ·rename_i s d y ho
  simp only[Bool.and_eq_true]at h
  obtain⟨⟨h1,h2⟩,h3⟩:=h
  obtain rfl:=Nat.eq_of_beq_eq_true h1
  split at h2
  ·rename_i e he
   split at h2
   ·rename_i hu
    simp only[Bp]at hr
    split at hr
    ·rename_i id n lo len hv
     obtain⟨q,hq,hr⟩:=Option.bind_eq_some_iff.1 hr
     split at hr
     ·rename_i hcond
      cases hr
      exact .inl (sim_cvr I F ho (DU he) hu h3 hv (show rowAt C.H id=some (q.1,q.2.1,q.2.2)from hq) hcond.1 hcond.2.1 hcond.2.2)
     ·cases hr
    ·cases hr
   ·cases h2
  ·cases h2
 ·cases h
def xC(P:Program)(x:AO)(o:Oper):Bool:=match o.op with
 | .convert s d y=>QV P d&&(match LK P s with
  |some e=>(match P.underlying e with|some (.int .u8)=>true|_=>false)
  |none=>false)&&Bc x y
 |_=>false
theorem ok_cvs{x:AO}(h:xC P x o=true):Dq P tb (.cvs x) o:=by
 intro cl C f a nt r hc I F hr
 unfold xC at h
 split at h
 ·rename_i s d y ho
  simp only[Bool.and_eq_true]at h
  obtain⟨⟨h1,h2⟩,h3⟩:=h
  split at h2
  ·rename_i e he
   split at h2
   ·rename_i hu
    simp only[Bp,val]at hr
    obtain⟨v,hv,rfl⟩:=Option.map_eq_some_iff.1 hr
    obtain⟨l,hl,rfl⟩:=Option.map_eq_some_iff.1 hv
    obtain⟨els,he1,hl⟩:=Option.bind_eq_some_iff.1 hl
    exact .inl (sim_cvs I F ho (DU he) hu (Gt h1) h3 he1 hl)
   ·cases h2
  ·cases h2
 ·cases h
def wJ(P:Program)(x:AO)(o:Oper):Bool:=match o.op with
 | .range t y=>QV P t&&Bc x y
 |_=>false
theorem ok_rng{x:AO}(h:wJ P x o=true):Dq P tb (.rng x) o:=by
 intro cl C f a nt r hc I F hr
 unfold wJ at h
 split at h
 ·rename_i t y ho
  simp only[Bool.and_eq_true]at h
  simp only[Bp]at hr
  split at hr
  ·rename_i l hl
   cases hr
   exact .inl (sim_rng I F ho (Gt h.1) h.2 hl)
  ·cases hr
 ·cases h
def wK(x:AO)(o:Oper):Bool:=match o.op with
 | .next y true=>Bc x y
 |_=>false
theorem ok_nxt{x:AO}(h:wK x o=true):Dq P tb (.nxt x) o:=by
 intro cl C f a nt r hc I F hr
 unfold wK at h
 split at h
 ·rename_i y ho
  simp only[Bp]at hr
  split at hr
  ·rename_i id off hl
   obtain⟨it,hi,hr2⟩:=Option.bind_eq_some_iff.1 hr
   by_cases h0:off=0
   ·rw[if_pos h0]at hr2
    subst h0
    exact .inl (sim_nxt (id:=id) (l:=it.1) (pos:=it.2) I F ho h hl hi hr2)
   ·rw[if_neg h0]at hr2;cases hr2
  ·cases hr
 ·cases h
def rU(P:Program)(t:TypeId):Option TypeId:=match P.underlying t with
 |some (.pointer u)=>some u
 |_=>none
theorem Qf{t u:TypeId}(h:rU P t=some u):P.underlying t=some (.pointer u):=by
 unfold rU at h
 split at h
 ·rename_i e hu;rw[hu];simp at h;rw[h]
 ·cases h
def pQ(P:Program)(t:TypeId):Bool:=match P.underlying t with
 |some .unsafePointer=>true
 |_=>false
theorem Xm{t:TypeId}(h:pQ P t=true):P.underlying t=some .unsafePointer:=by
 unfold pQ at h
 split at h
 ·assumption
 ·cases h
def xE(P:Program)(x:AO)(o:Oper):Bool:=match o.op with
 | .convert s d y=>pQ P d&&(match(rU P s).bind P.info? with
  |some j=> !(Nat.beq j.size 0)
  |none=>false)&&Bc x y
 |_=>false
theorem ok_cvp{x:AO}(h:xE P x o=true):Dq P tb (.cvp x) o:=by
 intro cl C f a nt r hc I F hr
 unfold xE at h
 split at h
 ·rename_i s d y ho
  simp only[Bool.and_eq_true]at h
  obtain⟨⟨h1,h2⟩,h3⟩:=h
  split at h2
  ·rename_i j hj
   obtain⟨t,ht,hi⟩:=Option.bind_eq_some_iff.1 hj
   refine .inl (sim_cvp I F ho (Qf ht) (Xm h1) hi (fun e=> ?_) h3 hr)
   rw[e]at h2;simp[Nat.beq_refl]at h2
  ·cases h2
 ·cases h
def xB(P:Program)(t n:Nat)(x:AO)(o:Oper):Bool:=match o.op with
 | .convert s d y=>pQ P s&&(match rU P d with
  |some u=>(P.info? u).isSome&&liesAt P P.depth t (n/P.cellsOf t) 0 u 1
  |none=>false)&&Bc x y
 |_=>false
theorem ok_cvu{t n:Nat}{x:AO}(h:xB P t n x o=true):Dq P tb (.cvu t n x) o:=by
 intro cl C f a nt r hc I F hr
 unfold xB at h
 split at h
 ·rename_i s d y ho
  simp only[Bool.and_eq_true]at h
  obtain⟨⟨h1,h2⟩,h3⟩:=h
  split at h2
  ·rename_i u hu
   simp only[Bool.and_eq_true]at h2
   obtain⟨j,hj⟩:=Option.isSome_iff_exists.1 h2.1
   exact .inl (sim_cvu I F ho (Xm h1) (Qf hu) hj h2.2 h3 hr)
  ·cases h2
 ·cases h
def wY(P:Program)(neg:Bool)(x y:AO)(o:Oper):Bool:=match o.op with
 | .binOp op t u v _=>decide (op=if neg then .neq else .eql)&&((rU P t).bind P.info?).isSome&&Bc x u&&Bc y v
 |_=>false
theorem ok_eqp{neg:Bool}{x y:AO}(h:wY P neg x y o=true):Dq P tb (.eqp neg x y) o:=by
 intro cl C f a nt r hc I F hr
 unfold wY at h
 split at h
 ·rename_i op t u v t' ho
  simp only[Bool.and_eq_true,decide_eq_true_eq]at h
  obtain⟨⟨⟨h0,h1⟩,h2⟩,h3⟩:=h
  obtain⟨j,hj⟩:=Option.isSome_iff_exists.1 h1
  obtain⟨e,he,hi⟩:=Option.bind_eq_some_iff.1 hj
  exact .inl (sim_eqp I F ho h0 (Qf he) hi h2 h3 hr)
 ·cases h
def mE(P:Program)(neg:Bool)(x:AO)(o:Oper):Bool:=match o.op with
 | .binOp op t u (.const .nilIface) _=>(match P.underlying t with
  |some (.interface _)=>true
  |_=>false)&&decide (op=if neg then .neq else .eql)&&Bc x u
 |_=>false
theorem ok_isni{neg:Bool}{x:AO}(h:mE P neg x o=true):Dq P tb (.isni neg x) o:=by
 intro cl C f a nt r hc I F hr
 unfold mE at h
 split at h
 ·rename_i op t u t' ho
  simp only[Bool.and_eq_true,decide_eq_true_eq]at h
  obtain⟨⟨h0,h1⟩,h2⟩:=h
  split at h0
  ·rename_i ms hu
   exact .inl (vA I F ho h1 hu h2 hr)
  ·cases h0
 ·cases h
def wE(x:AO)(o:Oper):Bool:=match Un o with
 |some (.unsafeSliceData,[y],_)=>Bc x y
 |_=>false
theorem ok_usd{x:AO}(h:wE x o=true):Dq P tb (.usd x) o:=by
 intro cl C f a nt r hc I F hr
 unfold wE at h
 split at h
 ·rename_i y ts hb
  obtain⟨c,ho,hcal,ha,ht⟩:=Fh hb
  exact .inl (sim_usd I F ho hcal (by rw[ha]) h hr)
 ·cases h
def wD(P:Program)(t:Nat)(x n:AO)(o:Oper):Bool:=match Un o with
 |some (.unsafeString,[y,z],[pt,_])=>(match rU P pt with
  |some u=>Nat.beq u t&&Nat.beq (P.cellsOf t) 1
  |none=>false)&&Bc x y&&Bc n z
 |_=>false
theorem ok_ust{t:Nat}{x n:AO}(h:wD P t x n o=true):Dq P tb (.ust t x n) o:=by
 intro cl C f a nt r hc I F hr
 unfold wD at h
 split at h
 ·rename_i y z pt it hb
  obtain⟨c,ho,hcal,ha,hty⟩:=Fh hb
  simp only[Bool.and_eq_true]at h
  obtain⟨⟨h1,h2⟩,h3⟩:=h
  split at h1
  ·rename_i u hu
   simp only[Bool.and_eq_true]at h1
   obtain rfl:=Nat.eq_of_beq_eq_true h1.1
   exact .inl (sim_ust I F ho hcal (by rw[ha]) (by rw[hty]) (Qf hu) (Nat.eq_of_beq_eq_true h1.2) h2 h3 hr)
  ·cases h1
 ·cases h
def Bs(P:Program)(ao:HN)(o:Oper):Bool:=
 match ao with
 | .mv x=>okMv P x o
 | .pick x y z=>lY x y z o
 | .alloc t z=>cL P t z o
 | .box t n x=>xJ t n x o
 | .ld ag n x=>okLd P ag n x o
 | .st n x z=>okSt P n x z o
 | .nilc x=>lZ x o
 | .bin op x y=>xL op x y o
 | .un op x=>okUn op x o
 | .cvi k x=>xF P k x o
 | .cvid x=>TN P x o
 | .cvc x=>TN P x o
 | .mkf fn x y=>wP fn x y o
 | .mkif t x=>mA P t x o
 | .ext x i=>wX x i o
 | .len x=>wR P x o
 | .lens x=>mB P x o
 | .fa off x=>okFa P off x o
 | .fld ag off n x=>wW P ag off n x o
 | .ias sz x i=>wU P sz x i o
 | .iaa len sz x i=>wV P len sz x i o
 | .ixa len sz ag x i=>wT P len sz ag x i o
 | .ixs x i=>wS P x i o
 | .sls x lo hi=>wF P x lo hi o
 | .sll sz x lo hi=>wG P sz x lo hi o
 | .sla n sz x lo hi=>wH P n sz x lo hi o
 | .app t sz bytes s x=>xM P t sz bytes s x o
 | .call g xs=>mG g xs o
 | .callv x xs=>cK x xs o
 | .eq neg ek x y=>okEq P neg ek x y o
 | .bld z ps=>xK P z ps o
 | .bls t sz z ps=>Z9 P sz z ps o&&mD P t o
 | .bll sz z ps=>Z9 P sz z ps o
 | .s2a n sz x=>wI P n sz x o
 | .mnx mx x y=>wM mx x y o
 | .cpy sz d x=>xH P sz d x o
 | .die=>true
 | .lkp ek z ok m k=>wQ P ek z ok m k o
 | .mup ek m k v=>wL P ek m k v o
 | .mkm=>wO o
 | .lenm x=>mC P x o
 | .del ek m k=>wZ P ek m k o
 | .clr z x=>xI P z x o
 | .mks t sz b z l c=>wN P t sz b z l c o
 | .cvb t x=>xG P t x o
 | .cvr x=>xD P x o
 | .cvs x=>xC P x o
 | .rng x=>wJ P x o
 | .nxt x=>wK x o
 | .cvp x=>xE P x o
 | .cvu t n x=>xB P t n x o
 | .eqp neg x y=>wY P neg x y o
 | .isni neg x=>mE P neg x o
 | .capn x=>mF P x o
 | .usd x=>wE x o
 | .ust t x n=>wD P t x n o
theorem sG(ao:HN)(o:Oper)(h:Bs P ao o=true):Dq P tb ao o:=by
 cases ao<;>try simp only[Bs]at h
 case mv=>exact ok_mv h
 case pick=>exact ok_pick h
 case alloc=>exact wC h
 case box=>exact ok_box h
 case ld=>exact ok_ld h
 case st=>exact ok_st h
 case nilc=>exact ok_nilc h
 case bin=>exact ok_bin h
 case un=>exact ok_un h
 case cvi=>exact ok_cvi h
 case cvid=>exact ok_cvid h
 case cvc=>exact ok_cvc h
 case mkf=>exact ok_mkf h
 case mkif=>exact ok_mkif h
 case ext=>exact ok_ext h
 case len=>exact ok_len h
 case lens=>exact ok_lens h
 case fa=>exact ok_fa h
 case fld=>exact ok_fld h
 case ias=>exact ok_ias h
 case iaa=>exact ok_iaa h
 case ixa=>exact ok_ixa h
 case ixs=>exact ok_ixs h
 case sls=>exact ok_sls h
 case sll=>exact ok_sll h
 case sla=>exact ok_sla h
 case app=>exact ok_app h
 case call=>exact ok_call h
 case callv=>exact wB h
 case eq=>exact ok_eq h
 case bld=>exact ok_bld h
 case bls=>exact ok_bls h
 case bll=>exact ok_bll h
 case s2a=>exact ok_s2a h
 case mnx=>exact ok_mnx h
 case cpy=>exact ok_cpy h
 case die=>exact ok_die
 case lkp=>exact ok_lkp h
 case mup=>exact ok_mup h
 case mkm=>exact ok_mkm h
 case lenm=>exact ok_lenm h
 case del=>exact ok_del h
 case clr=>exact ok_clr h
 case mks=>exact ok_mks h
 case cvb=>exact ok_cvb h
 case cvr=>exact ok_cvr h
 case cvs=>exact ok_cvs h
 case rng=>exact ok_rng h
 case nxt=>exact ok_nxt h
 case cvp=>exact ok_cvp h
 case cvu=>exact ok_cvu h
 case eqp=>exact ok_eqp h
 case isni=>exact ok_isni h
 case capn=>exact ok_capn h
 case usd=>exact ok_usd h
 case ust=>exact ok_ust h
end
end Go.Proofs.YtobejhpigbllpaaGreatDoor.Am
namespace Go.Proofs.YtobejhpigbllpaaGreatDoor.Am
def VW(rs:Array Oper):Option (Nat×Bool)→Option (Nat×Bool)→Bool
 |none,none=>true
 |some (t,w),some (j,w')=>w==w'&&(rs[j]?).bind (·.dst)==some t
 |_,_=>false
def WR(T:HN→Oper→Bool)(nt:Nat)(rs:Array Oper)(ao:AT)(o:Oper):Bool:=
 decide (ao.d=o.dst)&&(match o.dst with|some t=>decide (t<nt)|none=>true)&&VW rs ao.g o.guard&&T ao.o o
def Gr(T:HN→Oper→Bool)(nt:Nat)(rs:Array Oper):List AT→List Oper→Bool
 |[],[]=>true
 |x::l,o::r=>WR T nt rs x o&&Gr T nt rs l r
 |_,_=>false
section
variable{T:HN→Oper→Bool}{P:Program}{tb:CW}{cl:Nat→List AV→Av→KB}{nt:Nat}{rs:Array Oper}
theorem Wj{C:Dt}{f:Fr}{a:Act}(F:Br C f a nt){g:Option (Nat×Bool)}{o:Oper}(h:VW rs g o.guard=true){b:Bool}(hw:wanted f g=some b):
  Region.wanted o (yielded rs a.tmps)=b:=by
 unfold VW at h
 split at h
 ·rename_i hg
  simp only[wanted,Option.some.injEq]at hw
  subst hw
  simp[Region.wanted,hg]
 ·rename_i t w j w' hg
  simp only[Bool.and_eq_true,beq_iff_eq]at h
  obtain⟨rfl,hj⟩:=h
  simp only[wanted]at hw
  split at hw
  ·rename_i x hx
   simp only[Option.some.injEq]at hw
   subst hw
   have r:=F.rep t
   rw[hx]at r
   have r':a.tmps.getD t undef= .bool x:=r
   have hs:a.tmps[t]? =some (.bool x):=by
    rw[Array.getD_eq_getD_getElem?]at r'
    cases ht:a.tmps[t]? with
    |none=>rw[ht]at r';simp[undef]at r'
    |some v=>rw[ht]at r';simpa using r'
   simp only[Region.wanted,hg,yielded,hj,Option.bind_some,hs]
   cases x<;>cases w<;>rfl
  ·rename_i hx
   simp only[Option.some.injEq]at hw
   subst hw
   have r:=F.rep t
   rw[hx]at r
   obtain⟨vs,r',hv⟩:=r
   have hv':vs=[]:=hv
   subst hv'
   rw[Array.getD_eq_getD_getElem?]at r'
   simp only[Region.wanted,hg,yielded,hj,Option.bind_some]
   cases ht:a.tmps[t]? with
   |none=>rfl
   |some v=>
    rw[ht]at r'
    simp only[Option.getD_some]at r'
    subst r'
    rfl
  ·cases hw
 ·cases h
theorem U6{ao:AT}{o:Oper}(h:WR T nt rs ao o=true):ao.d=o.dst∧(∀t,o.dst=some t→t<nt)∧VW rs ao.g o.guard=true∧T ao.o o=true:=by
 simp only[WR,Bool.and_eq_true,decide_eq_true_eq]at h
 obtain⟨⟨⟨h1,h2⟩,h3⟩,h4⟩:=h
 refine⟨h1,fun t ht=> ?_,h3,h4⟩
 rw[ht]at h2
 simpa using h2
theorem sC(hT: ∀ao o,T ao o=true→Dq P tb ao o)(hcl:Fv P tb fun g args h=>B1 tb cl h g args){Q:Exit→Act→World→Prop}:
  ∀(l:List AT) (os:List Oper),Gr T nt rs l os=true→ ∀{C:Dt} {f:Fr} {a:Act},Inv tb C→Br C f a nt→ ∀{f':Fr} {h':Av},ops tb cl l f C.H=some (f',h')→
   (∀(D:Dt) (a':Act),KU C D→Inv tb D→D.H=h'→Br D f' a' nt→Q .normal a' D.w)→wpList P rs Q os a C.w:=by
 intro l
 induction l with
 |nil=>
  intro os h C f a I F f' h' e k
  cases os with
  |cons o os=>simp[Gr]at h
  |nil=>
   simp only[ops,Option.some.injEq,Prod.mk.injEq]at e
   obtain⟨rfl,rfl⟩:=e
   exact k C a (J1 C) I rfl F
 |cons ao l ih=>
  intro os h C f a I F f' h' e k
  cases os with
  |nil=>simp[Gr]at h
  |cons o os=>
   simp only[Gr,Bool.and_eq_true]at h
   obtain⟨h1,h2⟩:=h
   obtain⟨g1,g2,g3,g4⟩:=U6 h1
   simp only[ops]at e
   obtain⟨b,hb,e⟩:=Option.bind_eq_some_iff.1 e
   have hw:=Wj F g3 hb
   simp only[wpList,hw]
   cases b with
   |true=>
    simp only[if_true]at e ⊢
    obtain⟨p,hp,e⟩:=Option.bind_eq_some_iff.1 e
    refine .inl (Ux (hT _ _ g4 hcl I F hp) fun v D X ID hH hr=> ?_)
    rw[←g1]
    refine ih os h2 ID (F.put X (fun t ht=>g2 t (g1▸ht)) hr) (by rw[hH];exact e) fun D' a' X'=>k D' a' (X.trans X')
   |false=>
    simp only[Bool.false_eq_true,if_false]at e ⊢
    rw[←g1]
    exact ih os h2 I (F.put (J1 C) (fun t ht=>g2 t (g1▸ht)) (x:= .tup []) ⟨[],rfl,rfl⟩) e k
theorem rN(hT: ∀ao o,T ao o=true→Dq P tb ao o)(hcl:Fv P tb fun g args h=>B1 tb cl h g args){Q:Exit→Act→World→Prop}{l:List AT}{id:Nat}
  (h:Gr T nt rs l rs.toList=true) {C:Dt} {f:Fr} {a:Act} (I:Inv tb C) (F:Br C f a nt) {f':Fr} {h':Av} (e:ops tb cl l f C.H=some (f',h'))
  (k: ∀(D:Dt) (a':Act),KU C D→Inv tb D→D.H=h'→Br D f' a' nt→Q .normal a' D.w):(Code.region id rs false).wp P Q a C.w:=
 wp_region_list (sC hT hcl l _ h I F e k)
def Gm:AO→List Nat
 | .t n=>[n]
 |_=>[]
def ooT:Option AO→List Nat
 |some x=>Gm x
 |none=>[]
def opT:HN→List Nat
 | .mv x=>Gm x
 | .pick c a b=>Gm c++Gm a++Gm b
 | .alloc _ _=>[]
 | .box _ _ x=>Gm x
 | .bld _ ps=>ps.flatMap fun p=>Gm p.2.2
 | .bls _ _ _ ps=>ps.flatMap fun p=>Gm p.2
 | .bll _ _ ps=>ps.flatMap fun p=>Gm p.2
 | .ld _ _ a=>Gm a
 | .st _ a x=>Gm a++Gm x
 | .nilc x=>Gm x
 | .bin _ x y=>Gm x++Gm y
 | .eq _ _ x y=>Gm x++Gm y
 | .un _ x=>Gm x
 | .cvi _ x=>Gm x
 | .cvid x=>Gm x
 | .cvb _ x=>Gm x
 | .cvr x=>Gm x
 | .cvs x=>Gm x
 | .cvc x=>Gm x
 | .mkf _ a b=>a.flatMap Gm++b.flatMap Gm
 | .mkm=>[]
 | .mks _ _ _ _ l c=>Gm l++Gm c
 | .sls x lo hi=>Gm x++ooT lo++ooT hi
 | .sll _ x lo hi=>Gm x++ooT lo++ooT hi
 | .sla _ _ x lo hi=>Gm x++ooT lo++ooT hi
 | .fa _ x=>Gm x
 | .fld _ _ _ x=>Gm x
 | .ias _ x i=>Gm x++Gm i
 | .iaa _ _ x i=>Gm x++Gm i
 | .ixa _ _ _ x i=>Gm x++Gm i
 | .ixs x i=>Gm x++Gm i
 | .lkp _ _ _ m k=>Gm m++Gm k
 | .mup _ m k v=>Gm m++Gm k++Gm v
 | .rng x=>Gm x
 | .nxt x=>Gm x
 | .ext x _=>Gm x
 | .s2a _ _ x=>Gm x
 | .mkif _ x=>Gm x
 | .call _ xs=>xs.flatMap Gm
 | .callv x xs=>Gm x++xs.flatMap Gm
 | .len x=>Gm x
 | .lens x=>Gm x
 | .app _ _ _ s x=>Gm s++Gm x
 | .cpy _ d s=>Gm d++Gm s
 | .mnx _ x y=>Gm x++Gm y
 | .clr _ x=>Gm x
 | .del _ m k=>Gm m++Gm k
 | .lenm m=>Gm m
 | .cvp x=>Gm x
 | .cvu _ _ x=>Gm x
 | .eqp _ x y=>Gm x++Gm y
 | .isni _ x=>Gm x
 | .capn x=>Gm x
 | .usd x=>Gm x
 | .ust _ x n=>Gm x++Gm n
 | .die=>[]
def Alike(_:CW)(f f':Fr)(ts:List Nat):Prop:= ∀t∈ts,get f t=get f' t
theorem Alike.l{tb:CW}{f f':Fr}{x y:List Nat}(h:Alike tb f f' (x++y)):Alike tb f f' x:=fun t ht=>h t (List.mem_append_left _ ht)
theorem Alike.r{tb:CW}{f f':Fr}{x y:List Nat}(h:Alike tb f f' (x++y)):Alike tb f f' y:=fun t ht=>h t (List.mem_append_right _ ht)
theorem Alike.e{f f':Fr}{x:AO}(h:Alike tb f f' (Gm x)):eval tb f x=eval tb f' x:=by
 cases x with
 |t n=>exact h n (by simp[Gm])
 |_=>rfl
theorem Alike.es{f f':Fr}: ∀{xs:List AO},Alike tb f f' (xs.flatMap Gm)→xs.map (eval tb f)=xs.map (eval tb f')
 |[],_=>rfl
 |x::xs,h=>by
  rw[List.flatMap_cons]at h
  rw[List.map_cons,List.map_cons,h.l.e,Alike.es h.r]
theorem Alike.b{f f':Fr}{lo hi:Option AO}{n:Nat}(h:Alike tb f f' (ooT lo))(h':Alike tb f f' (ooT hi)):Hn (eval tb f) n lo hi=Hn (eval tb f') n lo hi:=by
 cases lo<;>cases hi
 ·rfl
 ·have e':=Alike.e h'
  simp only[Hn,e']
 ·have e:=Alike.e h
  simp only[Hn,e]
 ·have e:=Alike.e h
  have e':=Alike.e h'
  simp only[Hn,e,e']
theorem Alike.fl{f f':Fr}: ∀{ps:List (Nat×Nat×AO)} {z:List AV},Alike tb f f' (ps.flatMap fun p=>Gm p.2.2)→Mf z (eval tb f) ps=Mf z (eval tb f') ps
 |[],_,_=>rfl
 |(off,n,x)::ps,z,h=>by
  rw[List.flatMap_cons]at h
  simp only[Mf]
  rw[h.l.e]
  split
  ·exact Alike.fl h.r
  ·rfl
theorem Alike.fe{f f':Fr}{sz:Nat}: ∀{ps:List (Nat×AO)} {z:List (List AV)},Alike tb f f' (ps.flatMap fun p=>Gm p.2)→Mg z sz (eval tb f) ps=Mg z sz (eval tb f') ps
 |[],_,_=>rfl
 |(i,x)::ps,z,h=>by
  rw[List.flatMap_cons]at h
  simp only[Mg]
  rw[h.l.e]
  split
  ·exact Alike.fe h.r
  ·rfl
theorem aD{f f':Fr}{h:Av}: ∀{o:HN},Alike tb f f' (opT o)→Bp tb cl (eval tb f) h o=Bp tb cl (eval tb f') h o:=by
 intro o a
 cases o<;>simp only[opT]at a<;>simp only[Bp]
 case bld=>rw[a.fl]
 case bls=>rw[a.fe]
 case bll=>rw[a.fe]
 case mkf=>rw[a.l.es,a.r.es]
 case sls=>rw[a.l.l.e];split<;>first|rfl|rw[Alike.b a.l.r a.r]
 case sll=>rw[a.l.l.e];congr;funext n;rw[Alike.b a.l.r a.r]
 case sla=>rw[a.l.l.e,Alike.b a.l.r a.r]
 case call=>rw[a.es]
 case callv=>rw[a.l.e,a.r.es]
 case pick=>rw[a.l.l.e,a.l.r.e,a.r.e]
 case mup=>rw[a.l.l.e,a.l.r.e,a.r.e]
 all_goals first
  |rw[a.l.e,a.r.e]
  |rw[a.e]
def gT:Option (Nat×Bool)→List Nat
 |some (t,_)=>[t]
 |none=>[]
theorem aN{f f':Fr}{g:Option (Nat×Bool)}(a:Alike tb f f' (gT g)):wanted f g=wanted f' g:=by
 cases g with
 |none=>rfl
 |some p=>
  obtain⟨t,w⟩:=p
  simp only[wanted]
  rw[a t (by simp[gT])]
def FJ:List (Option (Nat×Nat))→Nat→Nat
 |_,0=>0
 |[],_+1=>0
 |none::w,i+1=>FJ w i+1
 |some _::w,i+1=>FJ w i
def Stepped(tb:CW)(cl:Nat→List AV→Av→KB)(hs:List Av)(k:Nat)(ao:AT)(w:Option (Nat×Nat))(f:Fr)(v:AV):Prop:=
 ∃t,wanted f ao.g=some t∧(t=false→v= .tup []∧(w=none→hs[k]? =hs[k+1]?))∧
  (t=true→(w=none→ ∃h u,hs[k]? =some h∧Bp tb cl (eval tb f) h ao.o=some (v,u)∧hs[k+1]? =some (u.getD h))∧
   ∀lo hi,w=some (lo,hi)→ ∀j,lo≤j→j≤hi→ ∃h u,hs[j]? =some h∧Bp tb cl (eval tb f) h ao.o=some (v,u)∧u.getD h=h)
theorem sE{hs:List Av}: ∀(l:List AT) (ws:List (Option (Nat×Nat))) (k:Nat) (f f':Fr),J4 tb cl hs l ws k f=some f'→
  ∃(fr:Nat→Fr) (vl:Nat→AV),fr 0=f∧fr l.length=f'∧k+FJ ws l.length+1=hs.length∧
   ∀i ao,l[i]? =some ao→fr (i+1)=put (fr i) ao.d (vl i)∧ ∃w,ws[i]? =some w∧Stepped tb cl hs (k+FJ ws i) ao w (fr i) (vl i):=by
 intro l
 induction l with
 |nil=>
  intro ws k f f' e
  simp only[J4]at e
  split at e
  ·rename_i hk
   obtain rfl:=Option.some.inj e
   exact⟨fun _=>f,fun _=> .junk,rfl,rfl,by simpa [FJ]using hk,fun i ao h=>(by simp at h)⟩
  ·cases e
 |cons ao l ih=>
  intro ws k f f' e
  simp only[J4]at e
  obtain⟨t,ht,e⟩:=Option.bind_eq_some_iff.1 e
  have glue: ∀(w:Option (Nat×Nat)) (ws':List (Option (Nat×Nat))) (v:AV) (k':Nat),ws=w::ws'→k'=k+(match w with|none=>1|some _=>0)→Stepped tb cl hs k ao w f v→
    J4 tb cl hs l ws' k' (put f ao.d v)=some f'→ ∃(fr:Nat→Fr) (vl:Nat→AV),fr 0=f∧fr (ao::l).length=f'∧k+FJ ws (ao::l).length+1=hs.length∧
     ∀i x,(ao::l)[i]? =some x→fr (i+1)=put (fr i) x.d (vl i)∧ ∃w,ws[i]? =some w∧Stepped tb cl hs (k+FJ ws i) x w (fr i) (vl i):=by
   intro w ws' v k' hws hk hst h
   subst hws
   obtain⟨fr,vl,h0,h1,h2,h3⟩:=ih ws' k' _ f' h
   have hrank: ∀i,k+FJ (w::ws') (i+1)=k'+FJ ws' i:=by
    intro i
    subst hk
    cases w<;>simp only[FJ]<;>omega
   refine⟨fun i=>match i with|0=>f|i+1=>fr i,fun i=>match i with|0=>v|i+1=>vl i,rfl,h1,by rw[List.length_cons,hrank];exact h2,?_⟩
   intro i x hx
   cases i with
   |zero=>
    simp only[List.getElem?_cons_zero,Option.some.injEq]at hx
    subst hx
    exact⟨h0,w,rfl,hst⟩
   |succ i=>
    obtain⟨g1,w',g2,g3⟩:=h3 i x (by simpa using hx)
    exact⟨g1,w',by simpa using g2,by rw[hrank];exact g3⟩
  cases t with
  |true=>
   simp only[if_true]at e
   obtain⟨h,hh,e⟩:=Option.bind_eq_some_iff.1 e
   obtain⟨p,hp,e⟩:=Option.bind_eq_some_iff.1 e
   cases ws with
   |nil=>simp at e
   |cons w0 w=>
    cases w0 with
    |none=>
     simp only[]at e
     split at e
     ·rename_i hn
      exact glue none w p.1 (k+1) rfl rfl ⟨true,ht,fun e=>(by cases e),fun _=>⟨fun _=>⟨h,p.2,hh,hp,hn.symm⟩,fun lo hi e=>(by cases e)⟩⟩ e
     ·cases e
    |some q=>
     obtain⟨lo,hi⟩:=q
     simp only[]at e
     split at e
     ·rename_i hn
      refine glue (some (lo,hi)) w p.1 k rfl rfl ⟨true,ht,fun e=>(by cases e),fun _=>⟨fun e=>(by cases e),?_⟩⟩ e
      intro lo' hi' e' j hj hj'
      simp only[Option.some.injEq,Prod.mk.injEq]at e'
      obtain⟨rfl,rfl⟩:=e'
      rw[List.all_eq_true]at hn
      have:=hn j (List.mem_range'_1.2 ⟨hj,by omega⟩)
      simp only[decide_eq_true_eq]at this
      obtain⟨u,hu,hu'⟩:=this
      obtain⟨h',hh',hu⟩:=Option.bind_eq_some_iff.1 hu
      refine⟨h',u,hh',hu,?_⟩
      rw[hh']at hu'
      simpa using hu'
     ·cases e
  |false=>
   simp only[Bool.false_eq_true,if_false]at e
   cases ws with
   |nil=>simp at e
   |cons w0 w=>
    cases w0 with
    |none=>
     simp only[]at e
     split at e
     ·rename_i hn
      exact glue none w (.tup []) (k+1) rfl rfl ⟨false,ht,fun _=>⟨rfl,fun _=>hn⟩,fun e=>(by cases e)⟩ e
     ·cases e
    |some q=>
     exact glue (some q) w (.tup []) k rfl rfl ⟨false,ht,fun _=>⟨rfl,fun e=>(by cases e)⟩,fun e=>(by cases e)⟩ e
end
end Go.Proofs.YtobejhpigbllpaaGreatDoor.Am
namespace Go.Proofs.YtobejhpigbllpaaGreatDoor.Am
def QH(rs:Array Oper)(i:Nat):List Nat:=
 match rs[i]? with
 |some o=>(o.after.toList.filter (Region.binds .any)).map (·.on)
 |none=>[]
def Tj(rs:Array Oper):Nat→Nat→Nat→Bool
 |0,_,_=>false
 |n+1,j,i=>(QH rs i).any (fun e=>Nat.beq e j)||(QH rs i).any fun e=>Tj rs n j e
theorem JT{rs:Array Oper}{L:Nat→Prop}(hd: ∀i,L i→ ∀e∈QH rs i,L e): ∀{n j i:Nat},Tj rs n j i=true→(∀e∈QH rs i,L e)→L j
 |0,_,_,h,_=>by simp[Tj]at h
 |n+1,j,i,h,hi=>by
  simp only[Tj,List.any_eq_true,Bool.or_eq_true,Nat.beq_eq]at h
  rcases h with ⟨e,he,rfl⟩|⟨e,he,h⟩
  ·exact hi _ he
  ·exact JT hd h (hd e (hi e he))
def looks(ao:AT):List Nat:=gT ao.g++opT ao.o
def TM(rs:Array Oper)(l:List AT)(ws:List (Option (Nat×Nat)))(i j:Nat):Bool:=
 match l[i]?,l[j]? with
 |some x,some y=>
  (match x.d with|some t=>decide (y.d≠some t)|none=>true)&&
  (match y.d with|some t=> !(looks x).contains t||(if j<i then Tj rs rs.size j i else Tj rs rs.size i j)|none=>true)&&
  (match ws[i]?,ws[j]? with
   |some none,some none=> !decide (j<i)||Tj rs rs.size j i
   |some (some (lo,hi)),some none=>(!decide (FJ ws j<lo)||Tj rs rs.size j i)&&(!decide (hi≤FJ ws j)||Tj rs rs.size i j)
   |_,_=>true)
 |_,_=>true
def okD(T:HN→Oper→Bool)(nt:Nat)(rs:Array Oper)(l:List AT)(ws:List (Option (Nat×Nat))):Bool:=
 Gr T nt rs l rs.toList&&(List.range rs.size).all fun i=>
  (QH rs i).all (fun e=>decide (e<i))&&
  (match ws[i]? with|some (some (lo,_))=>decide (lo≤FJ ws rs.size)|_=>true)&&
  (List.range rs.size).all fun j=>i==j||TM rs l ws i j
theorem VY(f:Fr)(d:Option Nat)(v:AV)(t:Nat):get (put f d v) t=if d=some t then v else get f t:=by
 cases d with
 |none=>simp[put]
 |some u=>simp[put,get]
theorem P1{T:HN→Oper→Bool}{nt:Nat}{rs:Array Oper}: ∀{l:List AT} {os:List Oper},Gr T nt rs l os=true→l.length=os.length
 |[],[],_=>rfl
 |[],_::_,h=>by simp[Gr]at h
 |_::_,[],h=>by simp[Gr]at h
 |_::_,_::_,h=>by
  simp only[Gr,Bool.and_eq_true]at h
  simp[P1 h.2]
theorem U5{T:HN→Oper→Bool}{nt:Nat}{rs:Array Oper}: ∀{l:List AT} {os:List Oper} {i:Nat} {x:AT} {o:Oper},Gr T nt rs l os=true→l[i]? =some x→os[i]? =some o→WR T nt rs x o=true
 |[],_,_,_,_,_,h,_=>by simp at h
 |_::_,[],_,_,_,_,_,h=>by simp at h
 |_::_,_::_,0,_,_,h,h1,h2=>by
  simp only[Gr,Bool.and_eq_true]at h
  simp only[List.getElem?_cons_zero,Option.some.injEq]at h1 h2
  subst h1;subst h2
  exact h.1
 |_::_,_::_,i+1,_,_,h,h1,h2=>by
  simp only[Gr,Bool.and_eq_true]at h
  exact U5 h.2 (i:=i) (by simpa using h1) (by simpa using h2)
theorem VT: ∀{ws:List (Option (Nat×Nat))} {i j:Nat},ws[i]? =some none→i<j→FJ ws i<FJ ws j
 |[],_,_,h,_=>by simp at h
 |_,_,0,_,h=>by omega
 |none::ws,0,j+1,_,_=>by simp only[FJ];omega
 |some _::ws,0,j+1,h,_=>by simp at h
 |none::ws,i+1,j+1,h,h'=>by
  have:=VT (ws:=ws) (i:=i) (j:=j) (by simpa using h) (by omega)
  simp only[FJ];omega
 |some _::ws,i+1,j+1,h,h'=>by
  have:=VT (ws:=ws) (i:=i) (j:=j) (by simpa using h) (by omega)
  simp only[FJ];omega
theorem NK: ∀{ws:List (Option (Nat×Nat))} {n k:Nat},k<FJ ws n→ ∃j,j<n∧ws[j]? =some none∧FJ ws j=k
 |_,0,_,h=>by simp[FJ]at h
 |[],_+1,_,h=>by simp[FJ]at h
 |none::ws,n+1,0,_=>⟨0,by omega,rfl,rfl⟩
 |none::ws,n+1,k+1,h=>by
  obtain⟨j,h1,h2,h3⟩:=NK (ws:=ws) (n:=n) (k:=k) (by simp only[FJ]at h;omega)
  exact⟨j+1,by omega,by simpa using h2,by simp only[FJ,h3]⟩
 |some _::ws,n+1,k,h=>by
  obtain⟨j,h1,h2,h3⟩:=NK (ws:=ws) (n:=n) (k:=k) (by simpa [FJ]using h)
  exact⟨j+1,by omega,by simpa using h2,by simp only[FJ,h3]⟩
section
variable{T:HN→Oper→Bool}{P:Program}{tb:CW}{cl:Nat→List AV→Av→KB}{nt:Nat}{rs:Array Oper}{l:List AT}{ws:List (Option (Nat×Nat))}{hs:List Av}{fr:Nat→Fr}{vl:Nat→AV}
def On(listed:Array Bool)(i:Nat):Prop:=listed.getD i false=true
structure St(rs:Array Oper)(l:List AT)(ws:List (Option (Nat×Nat)))(hs:List Av)(fr:Nat→Fr)(vl:Nat→AV)(listed:Array Bool)(H:Av)(f:Fr):Prop where
 size:listed.size=rs.size
 down: ∀i,On listed i→ ∀e∈QH rs i,On listed e
 heap: ∃k,hs[k]? =some H∧ ∀j,j<rs.size→ws[j]? =some none→(On listed j↔FJ ws j<k)
 vals: ∀i ai t,On listed i→l[i]? =some ai→ai.d=some t→get f t=vl i
 rest: ∀t,(∀i ai,On listed i→l[i]? =some ai→ai.d≠some t)→get f t=get (fr 0) t
theorem TL{listed:Array Bool}{i j:Nat}(hi:i<listed.size):On (listed.setIfInBounds i true) j↔j=i∨On listed j:=by
 unfold On
 by_cases h:i=j
 ·subst h;simp[Array.getD_eq_getD_getElem?,hi]
 ·rw[getD_set_ne false h]
  exact⟨.inr,fun e=>e.resolve_left (Ne.symm h)⟩
theorem Zk{i:Nat}{o:Oper}(h:rs[i]? =some o){e:Nat}:e∈QH rs i↔ ∃x∈o.after,Region.binds .any x=true∧x.on=e:=by
 simp only[QH,h,List.mem_map,List.mem_filter,Array.mem_toList_iff]
 exact⟨fun⟨x,⟨h1,h2⟩,h3⟩=>⟨x,h1,h2,h3⟩,fun⟨x,h1,h2,h3⟩=>⟨x,⟨h1,h2⟩,h3⟩⟩
theorem TG{listed:Array Bool}(hsz:listed.size=rs.size){i:Nat}:i∈Region.ready .any rs listed↔i<rs.size∧ ¬On listed i∧ ∀e∈QH rs i,On listed e:=by
 rw[mem_ready]
 constructor
 ·rintro⟨h1,o,ho,h2⟩
  have hi:i<rs.size:=(Array.getElem?_eq_some_iff.1 ho).1
  refine⟨hi,fun h=> ?_,fun e he=> ?_⟩
  ·unfold On at h
   simp[Array.getD_eq_getD_getElem?,show i<listed.size by omega]at h h1
   rw[h1]at h;cases h
  ·obtain⟨x,hx,hb,rfl⟩:=(Zk ho).1 he
   exact h2 x hx hb
 ·rintro⟨hi,h1,h2⟩
  obtain⟨o,ho⟩: ∃o,rs[i]? =some o:=⟨rs[i],Array.getElem?_eq_getElem hi⟩
  refine⟨?_,o,ho,fun x hx hb=>h2 _ ((Zk ho).2 ⟨x,hx,hb,rfl⟩)⟩
  unfold On at h1
  simp[Array.getD_eq_getD_getElem?,show i<listed.size by omega]at h1 ⊢
  exact h1
theorem xA(h:okD T nt rs l ws=true):l.length=rs.size∧(∀(i:Nat) (x:AT) (o:Oper),l[i]? =some x→rs[i]? =some o→WR T nt rs x o=true)∧(∀i,i<rs.size→ ∀e∈QH rs i,e<i)∧
  (∀(i j:Nat) (x y:AT) (t:Nat),l[i]? =some x→l[j]? =some y→i≠j→x.d=some t→y.d≠some t)∧
  (∀(i j:Nat) (x y:AT) (t:Nat),l[i]? =some x→l[j]? =some y→y.d=some t→t∈looks x→(j<i∧Tj rs rs.size j i=true)∨(i<j∧Tj rs rs.size i j=true)∨i=j)∧
  (∀i j,i<rs.size→j<rs.size→i≠j→ws[i]? =some none→ws[j]? =some none→j<i→Tj rs rs.size j i=true)∧
  (∀i j lo hi,i<rs.size→j<rs.size→ws[i]? =some (some (lo,hi))→ws[j]? =some none→(FJ ws j<lo→Tj rs rs.size j i=true)∧(hi≤FJ ws j→Tj rs rs.size i j=true))∧
  (∀i lo hi,i<rs.size→ws[i]? =some (some (lo,hi))→lo≤FJ ws rs.size):=by
 simp only[okD,Bool.and_eq_true,List.all_eq_true,List.mem_range,decide_eq_true_eq,Bool.or_eq_true,beq_iff_eq]at h
 obtain⟨h1,h2⟩:=h
 have hlen:l.length=rs.size:=by rw[P1 h1];simp
 have lt: ∀{i x},l[i]? =some x→i<rs.size:=fun{i x} e=>by have:=AS e;omega
 have pair: ∀i j,i<rs.size→j<rs.size→i≠j→TM rs l ws i j=true:=fun i j hi hj hne=>((h2 i hi).2 j hj).resolve_left hne
 refine⟨hlen,fun i x o hx ho=>U5 h1 hx (by simpa using ho),fun i hi=>(h2 i hi).1.1,?_,?_,?_,?_,fun i lo hi hil hw=> ?_⟩
 ·intro i j x y t hx hy hne hd
  have:=pair i j (lt hx) (lt hy) hne
  simp only[TM,hx,hy,hd,Bool.and_eq_true,decide_eq_true_eq]at this
  exact this.1.1
 ·intro i j x y t hx hy hd ht
  by_cases hij:i=j
  ·exact .inr (.inr hij)
  ·have:=pair i j (lt hx) (lt hy) hij
   simp only[TM,hx,hy,hd,Bool.and_eq_true,Bool.or_eq_true,Bool.not_eq_true']at this
   rcases this.1.2 with h|h
   ·simp[ht]at h
   ·by_cases hlt:j<i
    ·rw[if_pos hlt]at h
     exact .inl ⟨hlt,h⟩
    ·rw[if_neg hlt]at h
     exact .inr (.inl ⟨by omega,h⟩)
 ·intro i j hi hj hne hwi hwj hlt
  have:=pair i j hi hj hne
  obtain⟨x,hx⟩: ∃x,l[i]? =some x:=⟨_,List.getElem?_eq_getElem (by omega)⟩
  obtain⟨y,hy⟩: ∃x,l[j]? =some x:=⟨_,List.getElem?_eq_getElem (by omega)⟩
  simp only[TM,hx,hy,hwi,hwj,Bool.and_eq_true,Bool.or_eq_true,Bool.not_eq_true',decide_eq_false_iff_not]at this
  exact this.2.resolve_left (by omega)
 ·intro i j lo hi hil hjl hwi hwj
  have hne:i≠j:=by rintro rfl;rw[hwi]at hwj;cases hwj
  have:=pair i j hil hjl hne
  obtain⟨x,hx⟩: ∃x,l[i]? =some x:=⟨_,List.getElem?_eq_getElem (by omega)⟩
  obtain⟨y,hy⟩: ∃x,l[j]? =some x:=⟨_,List.getElem?_eq_getElem (by omega)⟩
  simp only[TM,hx,hy,hwi,hwj,Bool.and_eq_true,Bool.or_eq_true,Bool.not_eq_true',decide_eq_false_iff_not]at this
  exact⟨fun h=>this.2.1.resolve_left (by omega),fun h=>this.2.2.resolve_left (by omega)⟩
 ·have:=(h2 i hil).1.2
  simpa only[hw,decide_eq_true_eq]using this
theorem WX(hstep: ∀i ao,l[i]? =some ao→fr (i+1)=put (fr i) ao.d (vl i))(h3: ∀(i j:Nat) (x y:AT) (t:Nat),l[i]? =some x→l[j]? =some y→i≠j→x.d=some t→y.d≠some t):
  ∀m,m≤l.length→(∀i x t,i<m→l[i]? =some x→x.d=some t→get (fr m) t=vl i)∧(∀t,(∀i x,i<m→l[i]? =some x→x.d≠some t)→get (fr m) t=get (fr 0) t)
 |0,_=>⟨fun _ _ _ h=>by omega,fun _ _=>rfl⟩
 |m+1,hm=>by
  obtain⟨q1,q2⟩:=WX hstep h3 m (by omega)
  obtain⟨x,hx⟩: ∃x,l[m]? =some x:=⟨_,List.getElem?_eq_getElem (by omega)⟩
  rw[hstep m x hx]
  refine⟨fun i y t hi hy hd=> ?_,fun t ht=> ?_⟩
  ·rw[VY]
   by_cases him:i=m
   ·subst him
    rw[hx]at hy
    obtain rfl:=Option.some.inj hy
    rw[if_pos hd]
   ·rw[if_neg (h3 i m y x t hy hx him hd)]
    exact q1 i y t (by omega) hy hd
  ·rw[VY,if_neg (ht m x (by omega) hx)]
   exact q2 t fun i y hi=>ht i y (by omega)
theorem uB(hT: ∀ao o,T ao o=true→Dq P tb ao o)(hcl:Fv P tb fun g args h=>B1 tb cl h g args){Q:Exit→Act→World→Prop}(hok:okD T nt rs l ws=true)
  (hk:FJ ws l.length+1=hs.length) (hstep: ∀i ao,l[i]? =some ao→fr (i+1)=put (fr i) ao.d (vl i)∧ ∃w,ws[i]? =some w∧Stepped tb cl hs (FJ ws i) ao w (fr i) (vl i)) {C₀:Dt}
  (k: ∀(D:Dt) (a':Act),KU C₀ D→Inv tb D→hs.getLast?=some D.H→Br D (fr l.length) a' nt→Q .normal a' D.w):
  ∀(fuel:Nat) (listed:Array Bool) (C:Dt) (f:Fr) (a:Act),listed.toList.count false≤fuel→St rs l ws hs fr vl listed C.H f→KU C₀ C→Inv tb C→Br C f a nt→wpAny P .any rs Q fuel listed a C.w:=by
 obtain⟨c1,c2,c3,c4,c5,c6,c7,c8⟩:=xA hok
 have lexf:=WX (fun i ao h=>(hstep i ao h).1) c4
 have fin: ∀(listed:Array Bool) (C:Dt) (f:Fr) (a:Act),Region.ready .any rs listed=[]→St rs l ws hs fr vl listed C.H f→KU C₀ C→Inv tb C→Br C f a nt→Q .normal a C.w:=by
  intro listed C f a hr S X I F
  have all: ∀n i,i<n→i<rs.size→On listed i:=by
   intro n
   induction n with
   |zero=>intro i h;omega
   |succ n ih=>
    intro i hi hil
    refine Classical.byContradiction fun hno=> ?_
    have:i∈Region.ready .any rs listed:=(TG S.size).2 ⟨hil,hno,fun e he=>ih e (by have:=c3 i hil e he;omega) (by have:=c3 i hil e he;omega)⟩
    rw[hr]at this
    cases this
  have all': ∀i,i<rs.size→On listed i:=fun i hi=>all (i+1) i (by omega) hi
  obtain⟨q1,q2⟩:=lexf l.length (Nat.le_refl _)
  refine k C a X I ?_ ⟨fun t=> ?_,F.size,F.defers⟩
  ·obtain⟨m,hm,hw⟩:=S.heap
   have hml:=AS hm
   have:m=FJ ws l.length:=by
    refine Classical.byContradiction fun hne=> ?_
    obtain⟨j,hj,hwj,hrj⟩:=NK (ws:=ws) (n:=l.length) (k:=m) (by omega)
    have:=(hw j (by omega) hwj).1 (all' j (by omega))
    omega
   rw[List.getLast?_eq_getElem?,←hm]
   congr 1
   omega
  ·have:get (fr l.length) t=get f t:=by
    by_cases hex: ∃(i:Nat) (x:AT),l[i]? =some x∧x.d=some t
    ·obtain⟨i,x,hx,hd⟩:=hex
     rw[q1 i x t (AS hx) hx hd,S.vals i x t (all' i (by have:=AS hx;omega)) hx hd]
    ·rw[q2 t fun i x _ hx hd=>hex ⟨i,x,hx,hd⟩,S.rest t fun i x _ hx hd=>hex ⟨i,x,hx,hd⟩]
   rw[this]
   exact F.rep t
 intro fuel
 induction fuel with
 |zero=>
  intro listed C f a hc S X I F
  have hr:Region.ready .any rs listed=[]:=by
   rw[List.eq_nil_iff_forall_not_mem]
   intro i hi
   obtain⟨hil,hno,_⟩:=(TG S.size).1 hi
   have h0:listed.toList.count false=0:=by omega
   rw[List.count_eq_zero]at h0
   apply hno
   have hil':i<listed.size:=by rw[S.size];exact hil
   unfold On
   rw[Array.getD_eq_getD_getElem?,Array.getElem?_eq_getElem hil']
   simp only[Option.getD_some]
   cases hv:listed[i]with
   |true=>rfl
   |false=>exact absurd (by rw[←hv];simp) h0
  exact⟨hr,fin listed C f a hr S X I F⟩
 |succ fuel ih=>
  intro listed C f a hc S X I F
  refine⟨fun hr=>fin listed C f a hr S X I F,fun i hi=> ?_⟩
  obtain⟨hil,hno,hall⟩:=(TG S.size).1 hi
  have hil':i<listed.size:=by rw[S.size];exact hil
  obtain⟨o,ho⟩: ∃o,rs[i]? =some o:=⟨rs[i],Array.getElem?_eq_getElem hil⟩
  obtain⟨ao,hao⟩: ∃x,l[i]? =some x:=⟨_,List.getElem?_eq_getElem (by omega)⟩
  obtain⟨g1,g2,g3,g4⟩:=U6 (c2 i ao o hao ho)
  obtain⟨hfr,w,hwi,t,hwt,hfalse,htrue⟩:=hstep i ao hao
  obtain⟨q1,q2⟩:=lexf i (by omega)
  have alike:Alike tb f (fr i) (looks ao):=by
   intro u hu
   by_cases hex: ∃(j:Nat) (x:AT),l[j]? =some x∧x.d=some u
   ·obtain⟨j,x,hx,hd⟩:=hex
    rcases c5 i j ao x u hao hx hd hu with ⟨hji,hanc⟩|hlate
    ·have hon:On listed j:=JT S.down hanc hall
     rw[q1 j x u hji hx hd,S.vals j x u hon hx hd]
    ·have hij:i≤j:=by rcases hlate with h|h<;>omega
     have hoff: ¬On listed j:=fun h=>by
      rcases hlate with ⟨_,hanc⟩|rfl
      ·exact hno (JT S.down hanc (S.down j h))
      ·exact hno h
     have one: ∀(k:Nat) (y:AT),l[k]? =some y→y.d=some u→k=j:=fun k y hy hyd=>
      Classical.byContradiction fun hne=>c4 k j y x u hy hx hne hyd hd
     rw[q2 u fun k y hk hy hyd=>by have:=one k y hy hyd;omega,S.rest u fun k y hk hy hyd=>hoff (one k y hy hyd▸hk)]
   ·rw[q2 u fun j x _ hx hd=>hex ⟨j,x,hx,hd⟩,S.rest u fun j x _ hx hd=>hex ⟨j,x,hx,hd⟩]
  have hwt':wanted f ao.g=some t:=by rw[aN alike.l];exact hwt
  have hwr:=Wj F g3 hwt'
  obtain⟨m,hm,hmw⟩:=S.heap
  have hcount:(listed.setIfInBounds i true).toList.count false≤fuel:=by
   have hv:listed[i]=false:=by
    cases hv:listed[i]with
    |false=>rfl
    |true=>exact absurd (by unfold On;rw[Array.getD_eq_getD_getElem?,Array.getElem?_eq_getElem hil',hv];rfl) hno
   rw[Array.toList_setIfInBounds,List.count_set (by simpa using hil')]
   have hv':listed.toList[i]'(by simpa using hil')=false:=by simpa using hv
   have hpos:0<listed.toList.count false:=List.count_pos_iff.2 (by rw[←hv];simp)
   rw[hv']
   simp only[beq_self_eq_true,if_true,beq_iff_eq,Bool.true_eq_false,if_false]
   omega
  have next: ∀(H:Av),(w=none→hs[m+1]? =some H)→(w≠none→H=C.H)→St rs l ws hs fr vl (listed.setIfInBounds i true) H (put f ao.d (vl i)):=by
   intro H hn hq
   refine⟨by simp[S.size],?_,?_,?_,?_⟩
   ·intro j hj e he
    rw[TL hil']at hj ⊢
    rcases hj with rfl|hj
    ·exact .inr (hall e he)
    ·exact .inr (S.down j hj e he)
   ·cases hw:w with
    |none=>
     subst hw
     refine⟨m+1,hn rfl,fun j hj hwj=> ?_⟩
     have hmi:FJ ws i=m:=by
      have h1: ¬FJ ws i<m:=fun h=>hno ((hmw i hil hwi).2 h)
      have h2: ¬m<FJ ws i:=fun h=>by
       obtain⟨j,hj,hwj,hrj⟩:=NK h
       have:=JT S.down (c6 i j hil (by omega) (by omega) hwi hwj hj) hall
       have:=(hmw j (by omega) hwj).1 this
       omega
      omega
     rw[TL hil',hmw j hj hwj]
     constructor
     ·rintro(rfl|h)
      ·omega
      ·omega
     ·intro h
      by_cases hji:j=i
      ·exact .inl hji
      ·right
       rcases Nat.lt_or_ge j i with h'|h'
       ·have:=VT hwj h';omega
       ·have:=VT hwi (show i<j by omega);omega
    |some p=>
     refine⟨m,by rw[hq (by rw[hw];simp)];exact hm,fun j hj hwj=> ?_⟩
     have hji:j≠i:=by rintro rfl;rw[hwi,hw]at hwj;cases hwj
     rw[TL hil',←hmw j hj hwj]
     exact⟨fun h=>h.resolve_left hji, .inr⟩
   ·intro j x u hj hx hd
    rw[VY]
    rw[TL hil']at hj
    by_cases hji:j=i
    ·subst hji
     rw[hao]at hx
     obtain rfl:=Option.some.inj hx
     rw[if_pos hd]
    ·rw[if_neg (c4 j i x ao u hx hao hji hd)]
     exact S.vals j x u (hj.resolve_left hji) hx hd
   ·intro u hu
    rw[VY,if_neg (hu i ao ((TL hil').2 (.inl rfl)) hao)]
    exact S.rest u fun j x hj hx=>hu j x ((TL hil').2 (.inr hj)) hx
  have hrank:w=none→FJ ws i=m:=by
   rintro rfl
   have h1: ¬FJ ws i<m:=fun h=>hno ((hmw i hil hwi).2 h)
   have h2: ¬m<FJ ws i:=fun h=>by
    obtain⟨j,hj,hwj,hrj⟩:=NK h
    have:=JT S.down (c6 i j hil (by omega) (by omega) hwi hwj hj) hall
    have:=(hmw j (by omega) hwj).1 this
    omega
   omega
  have hrange: ∀lo hi,w=some (lo,hi)→lo≤m∧m≤hi:=by
   rintro lo hi rfl
   have hml:=AS hm
   constructor
   ·refine Nat.le_of_not_lt fun h=> ?_
    obtain⟨j,hj,hwj,hrj⟩: ∃j,j<l.length∧ws[j]? =some none∧FJ ws j=m:=by
     by_cases hlt:m<FJ ws l.length
     ·exact NK hlt
     ·have:=c8 i lo hi hil hwi
      rw[←c1]at this
      omega
    have:=JT S.down ((c7 i j lo hi hil (by omega) hwi hwj).1 (by omega)) hall
    have:=(hmw j (by omega) hwj).1 this
    omega
   ·refine Nat.le_of_not_lt fun h=> ?_
    obtain⟨j,hj,hwj,hrj⟩: ∃j,j<l.length∧ws[j]? =some none∧FJ ws j=hi:=NK (by omega)
    have hon:=(hmw j (by omega) hwj).2 (by omega)
    exact hno (JT S.down ((c7 i j lo hi hil (by omega) hwi hwj).2 (by omega)) (S.down j hon))
  unfold wpOp
  simp only[ho,hwr]
  rw[←g1]
  cases t with
  |false=>
   simp only[Bool.false_eq_true,if_false]
   obtain⟨hv,hsame⟩:=hfalse rfl
   refine ih _ C (put f ao.d (.tup [])) _ hcount ?_ X I (F.put (J1 C) (fun t ht=>g2 t (g1▸ht)) (x:= .tup []) ⟨[],rfl,rfl⟩)
   rw[←hv]
   refine next C.H (fun hw=> ?_) fun _=>rfl
   rw[←hrank hw,←hsame hw,hrank hw]
   exact hm
  |true=>
   simp only[if_true]
   obtain⟨hW,hR⟩:=htrue rfl
   have land: ∀(u:Option Av),Bp tb cl (eval tb f) C.H ao.o=some (vl i,u)→(w=none→hs[m+1]? =some (u.getD C.H))→(w≠none→u.getD C.H=C.H)→
     o.wp P a C.w (wpAny P .any rs Q fuel (listed.setIfInBounds i true)) Q:=by
    intro u hu h1 h2
    refine Ux (hT _ _ g4 hcl I F hu) fun v D X' ID hH hr=> ?_
    rw[←g1]
    refine ih _ D (put f ao.d (vl i)) _ hcount ?_ (X.trans X') ID (F.put X' (fun t ht=>g2 t (g1▸ht)) hr)
    rw[hH]
    exact next _ h1 h2
   left
   cases hw:w with
   |none=>
    obtain⟨h,u,e1,e2,e3⟩:=hW hw
    rw[hrank hw]at e1 e3
    rw[hm]at e1
    obtain rfl:=Option.some.inj e1
    exact land u (by rw[aD alike.r];exact e2) (fun _=>e3) fun hne=>absurd hw hne
   |some p=>
    obtain⟨lo,hi⟩:=p
    obtain⟨r1,r2⟩:=hrange lo hi hw
    obtain⟨h,u,e1,e2,e3⟩:=hR lo hi hw m r1 r2
    rw[hm]at e1
    obtain rfl:=Option.some.inj e1
    exact land u (by rw[aD alike.r];exact e2) (fun hn=>absurd (hn.symm.trans hw) (by simp)) fun _=>e3
end
end Go.Proofs.YtobejhpigbllpaaGreatDoor.Am
namespace Go.Proofs.YtobejhpigbllpaaGreatDoor.Am
def cD(l:List AT):List (Option (Nat×Nat)):=l.map fun _=>some (0,0)
def R0(T:HN→Oper→Bool)(nt:Nat):AC→Code→Bool
 | .skip, .skip=>true
 | .reg l, .region _ rs false=>Gr T nt rs l rs.toList
 | .regq l, .region _ rs true=>okD T nt rs l (cD l)
 | .regd l ws, .region _ rs true=>okD T nt rs l ws
 | .seq x y, .seq c d=>R0 T nt x c&&R0 T nt y d
 | .cond x a b, .cond y c d=>Bc x y&&R0 T nt a c&&R0 T nt b d
 | .blk id x, .block id' c=>id==id'&&R0 T nt x c
 | .loop _ x, .loop c=>R0 T nt x c
 | .exit id, .exit id'=>id==id'
 | .ret, .ret=>true
 | .keep _ x,c=>R0 T nt x c
 | .scope x, .scope c=>R0 T nt x c
 | .skip, .label _=>true
 | .stop,_=>true
 |_,_=>false
def exOf:Ex→Exit
 | .normal=> .normal
 | .exit id=> .exit id
 | .ret=> .ret
section
variable{T:HN→Oper→Bool}{P:Program}{tb:CW}{cl:Nat→List AV→Av→KB}{nt:Nat}
theorem cH{h:Av}: ∀(l:List AT) {f f':Fr},Ia tb cl h l f=some f'→J4 tb cl [h] l (cD l) 0 f=some f':=by
 intro l
 induction l with
 |nil=>intro f f' e;simpa [Ia,J4,cD]using e
 |cons o l ih=>
  intro f f' e
  simp only[Ia]at e
  obtain⟨w,hw,e⟩:=Option.bind_eq_some_iff.1 e
  simp only[cD,List.map_cons,J4,hw,Option.bind_some]
  cases w with
  |true=>
   simp only[if_true]at e ⊢
   obtain⟨p,hp,e⟩:=Option.bind_eq_some_iff.1 e
   split at e
   ·rename_i hsame
    simp only[List.getElem?_cons_zero,Option.bind_some,hp]
    rw[if_pos]
    ·exact ih e
    ·rw[List.all_eq_true]
     intro j hj
     rw[List.mem_range'_1]at hj
     have:j=0:=by omega
     subst this
     simp only[decide_eq_true_eq,List.getElem?_cons_zero,Option.bind_some,Option.getD_some]
     exact⟨p.2,by rw[hp],by rw[hsame]⟩
   ·cases e
  |false=>
   simp only[Bool.false_eq_true,if_false]at e ⊢
   exact ih e
theorem cB{rs:Array Oper}{l:List AT}{ws:List (Option (Nat×Nat))}{hs:List Av}{fr:Nat→Fr}{vl:Nat→AV}{H:Av}(hh:hs[0]? =some H):
  St rs l ws hs fr vl (Array.replicate rs.size false) H (fr 0):=by
 have hoff: ∀i,¬On (Array.replicate rs.size false) i:=by
  intro i h
  unfold On at h
  rw[Array.getD_eq_getD_getElem?,Array.getElem?_replicate]at h
  split at h<;>simp at h
 exact⟨by simp,fun i h=>absurd h (hoff i),⟨0,hh,fun j _ _=>⟨fun h=>absurd h (hoff j),fun h=>absurd h (Nat.not_lt_zero _)⟩⟩,fun i _ _ h=>absurd h (hoff i),fun _ _=>rfl⟩
theorem WH(hm:P.follows .mixedOrders=true)(hT: ∀ao o,T ao o=true→Dq P tb ao o)(hcl:Fv P tb fun g args h=>B1 tb cl h g args){Q:Exit→Act→World→Prop}{l:List AT}
  {ws:List (Option (Nat×Nat))} {rs:Array Oper} {id:Nat} (h:okD T nt rs l ws=true) {C:Dt} {f:Fr} {a:Act} (I:Inv tb C) (F:Br C f a nt) {f':Fr} {hs:List Av} (hh:hs[0]? =some C.H)
  (e:J4 tb cl hs l ws 0 f=some f') (k: ∀(D:Dt) (a':Act),KU C D→Inv tb D→hs.getLast?=some D.H→Br D f' a' nt→Q .normal a' D.w):(Code.region id rs true).wp P Q a C.w:=by
 obtain⟨fr,vl,h0,h1,h2,h3⟩:=sE l ws 0 f f' e
 obtain⟨X,ID⟩:=drawn I (w:={C.w with drawn:=C.w.drawn+1}) ⟨rfl,rfl,rfl⟩ rfl
 subst h0
 subst h1
 refine wp_region_any hm ?_
 refine uB (vl:=vl) (C₀:=C) hT hcl h (by omega) (fun i ao hi=> ?_) k rs.size _ ⟨C.φ,C.H,{C.w with drawn:=C.w.drawn+1}⟩ (fr 0) a ?_ (cB hh) X ID (F.ext X)
 ·have:=h3 i ao hi
  simpa only[Nat.zero_add]using this
 ·exact Nat.le_trans List.count_le_length (by simp)
theorem sP(AZ:List Nat)(f:Fr)(t:Nat):get (keepL AZ f) t=get f t∨get (keepL AZ f) t= .junk:=by
 induction AZ with
 |nil=>exact .inr rfl
 |cons u AZ ih=>
  simp only[keepL,List.map_cons,get]
  by_cases h:u=t
  ·subst h;left;rw[if_pos rfl]
  ·rw[if_neg h];exact ih
theorem Br.keep{C:Dt}{f:Fr}{a:Act}(F:Br C f a nt)(AZ:List Nat):Br C (keepL AZ f) a nt:=by
 refine⟨fun t=> ?_,F.size,F.defers⟩
 rcases sP AZ f t with h|h
 ·rw[h];exact F.rep t
 ·rw[h];trivial
theorem memH: ∀(l:Av) (o:BF),o∈l→Ej o≤CB l:=by
 intro l
 induction l with
 |nil=>intro o h;cases h
 |cons x l ih=>
  intro o h
  simp only[CB]
  rcases List.mem_cons.1 h with e|h
  ·subst e;omega
  ·have:=ih o h;omega
structure Next(tb:CW)(C:Dt)(nt:Nat)(f:Fr)(h:Av)(D:Dt)(a:Act):Prop where
 ext:KU C D
 inv:Inv tb D
 heap:D.H=h
 fr:Br D f a nt
theorem nY(hm:P.follows .mixedOrders=true)(hT: ∀ao o,T ao o=true→Dq P tb ao o)(hcl:Fv P tb fun g args h=>B1 tb cl h g args)(hg: ∀g cs,tb.gl g=some cs→Bg cs=0):
  ∀(ac:AC) (c:Code),R0 T nt ac c=true→ ∀{C:Dt} {f:Fr} {a:Act} {e:Ex} {f':Fr} {h':Av},AW tb cl ac f C.H=some (e,f',h')→Inv tb C→Br C f a nt→
   ∀{Q:Exit→Act→World→Prop},(∀D a',Next tb C nt f' h' D a'→Q (exOf e) a' D.w)→c.wp P Q a C.w:=by
 intro ac
 induction ac with
 |skip=>
  intro c hok C f a e f' h' he I F Q k
  simp only[AW,Option.some.injEq,Prod.mk.injEq]at he
  obtain⟨rfl,rfl,rfl⟩:=he
  cases c<;>simp only[R0,Bool.false_eq_true]at hok
  ·exact wp_skip (k C a ⟨J1 C,I,rfl,F⟩)
  ·exact wp_label (k C a ⟨J1 C,I,rfl,F⟩)
 |ret=>
  intro c hok C f a e f' h' he I F Q k
  cases c<;>simp only[R0,Bool.false_eq_true]at hok
  simp only[AW,Option.some.injEq,Prod.mk.injEq]at he
  obtain⟨rfl,rfl,rfl⟩:=he
  exact wp_ret (k C a ⟨J1 C,I,rfl,F⟩)
 |exit id=>
  intro c hok C f a e f' h' he I F Q k
  cases c<;>simp only[R0,Bool.false_eq_true,beq_iff_eq]at hok
  subst hok
  simp only[AW,Option.some.injEq,Prod.mk.injEq]at he
  obtain⟨rfl,rfl,rfl⟩:=he
  exact wp_exit (k C a ⟨J1 C,I,rfl,F⟩)
 |reg l=>
  intro c hok C f a e f' h' he I F Q k
  cases c with
  |region id rs b=>
   cases b<;>simp only[R0,Bool.false_eq_true]at hok
   simp only[AW]at he
   obtain⟨p,hp,he⟩:=Option.map_eq_some_iff.1 he
   obtain⟨p1,p2⟩:=p
   simp only[Prod.mk.injEq]at he
   obtain⟨rfl,rfl,rfl⟩:=he
   exact rN hT hcl hok I F hp fun D a' X ID hH FD=>k D a' ⟨X,ID,hH,FD⟩
  |_=>simp[R0]at hok
 |regq l=>
  intro c hok C f a e f' h' he I F Q k
  cases c with
  |region id rs b=>
   cases b<;>simp only[R0,Bool.false_eq_true]at hok
   simp only[AW]at he
   obtain⟨p,hp,he⟩:=Option.map_eq_some_iff.1 he
   simp only[Prod.mk.injEq]at he
   obtain⟨rfl,rfl,rfl⟩:=he
   refine WH hm hT hcl hok I F rfl (cH l hp) fun D a' X ID hH FD=>k D a' ⟨X,ID,?_,FD⟩
   simpa using hH.symm
  |_=>simp[R0]at hok
 |regd l ws=>
  intro c hok C f a e f' h' he I F Q k
  cases c with
  |region id rs b=>
   cases b<;>simp only[R0,Bool.false_eq_true]at hok
   simp only[AW]at he
   obtain⟨hs,_,he⟩:=Option.bind_eq_some_iff.1 he
   obtain⟨f1,hd,he⟩:=Option.bind_eq_some_iff.1 he
   obtain⟨h1,hl,he⟩:=Option.map_eq_some_iff.1 he
   simp only[Prod.mk.injEq]at he
   obtain⟨rfl,rfl,rfl⟩:=he
   refine WH hm hT hcl hok I F rfl hd fun D a' X ID hH FD=>k D a' ⟨X,ID,?_,FD⟩
   rw[hl]at hH
   exact(Option.some.inj hH).symm
  |_=>simp[R0]at hok
 |seq x y ihx ihy=>
  intro c hok C f a e f' h' he I F Q k
  cases c with
  |seq c d=>
   simp only[R0,Bool.and_eq_true]at hok
   simp only[AW]at he
   obtain⟨p,hp,he⟩:=Option.bind_eq_some_iff.1 he
   obtain⟨e1,f1,h1⟩:=p
   refine wp_seq (ihx c hok.1 hp I F fun D a' N=> ?_)
   cases e1 with
   |normal=>
    obtain⟨X,ID,hH,FD⟩:=N
    exact ihy d hok.2 (by rw[hH];exact he) ID FD fun D' a'' N'=>k D' a'' ⟨X.trans N'.ext,N'.inv,N'.heap,N'.fr⟩
   |exit id=>
    simp only[Option.some.injEq,Prod.mk.injEq]at he
    obtain⟨rfl,rfl,rfl⟩:=he
    exact k D a' N
   |ret=>
    simp only[Option.some.injEq,Prod.mk.injEq]at he
    obtain⟨rfl,rfl,rfl⟩:=he
    exact k D a' N
  |_=>simp[R0]at hok
 |cond x y z ihy ihz=>
  intro c hok C f a e f' h' he I F Q k
  cases c with
  |cond v c d=>
   simp only[R0,Bool.and_eq_true]at hok
   have r:=AH I F hok.1.1
   simp only[AW]at he
   split at he
   ·rename_i t ht
    rw[ht]at r
    cases t with
    |true=>exact wp_cond_true r (ihy c hok.1.2 (by simpa using he) I F k)
    |false=>exact wp_cond_false r (ihz d hok.2 (by simpa using he) I F k)
   ·cases he
  |_=>simp[R0]at hok
 |blk id x ih=>
  intro c hok C f a e f' h' he I F Q k
  cases c with
  |block id' c=>
   simp only[R0,Bool.and_eq_true,beq_iff_eq]at hok
   obtain⟨rfl,hok⟩:=hok
   simp only[AW]at he
   obtain⟨p,hp,he⟩:=Option.map_eq_some_iff.1 he
   obtain⟨e1,f1,h1⟩:=p
   refine wp_block (ih c hok hp I F fun D a' N=> ?_)
   cases e1 with
   |normal=>
    simp only[Prod.mk.injEq]at he
    obtain⟨rfl,rfl,rfl⟩:=he
    exact k D a' N
   |ret=>
    simp only[Prod.mk.injEq]at he
    obtain⟨rfl,rfl,rfl⟩:=he
    exact k D a' N
   |exit id'=>
    simp only at he
    simp only[exOf,Exit.inBlock]
    by_cases hid:id'=id
    ·rw[if_pos hid]at he ⊢
     simp only[Prod.mk.injEq]at he
     obtain⟨rfl,rfl,rfl⟩:=he
     exact k D a' N
    ·rw[if_neg hid]at he ⊢
     simp only[Prod.mk.injEq]at he
     obtain⟨rfl,rfl,rfl⟩:=he
     exact k D a' N
  |_=>simp[R0]at hok
 |scope x ih=>
  intro c hok C f a e f' h' he I F Q k
  cases c with
  |scope c=>
   simp only[R0]at hok
   refine wp_scope_straight (ih c hok he I F fun D a' N=> ?_)
   have:=k D a' N
   cases e<;>exact this
  |_=>simp[R0]at hok
 |stop=>
  intro c hok C f a e f' h' he I F Q k
  simp[AW]at he
 |keep AZ x ih=>
  intro c hok C f a e f' h' he I F Q k
  simp only[R0]at hok
  simp only[AW]at he
  obtain⟨p,hp,he⟩:=Option.map_eq_some_iff.1 he
  obtain⟨e1,f1,h1⟩:=p
  refine ih c hok hp I F fun D a' N=> ?_
  cases e1 with
  |normal=>
   simp only[Prod.mk.injEq]at he
   obtain⟨rfl,rfl,rfl⟩:=he
   exact k D a' ⟨N.ext,N.inv,N.heap,N.fr.keep AZ⟩
  |exit id=>
   simp only[Prod.mk.injEq]at he
   obtain⟨rfl,rfl,rfl⟩:=he
   exact k D a' N
  |ret=>
   simp only[Prod.mk.injEq]at he
   obtain⟨rfl,rfl,rfl⟩:=he
   exact k D a' N
 |loop AZ x ih=>
  intro c hok C f a e f' h' he I F Q k
  cases c with
  |loop c=>
   simp only[R0]at hok
   simp only[AW,lp]at he
   split at he
   ·rename_i hex
    have key: ∀(n:Nat) {D:Dt} {f:Fr} {a:Act},Vo (KS AZ (AW tb cl x)) n f D.H=some (e,f',h')→KU C D→Inv tb D→Br D f a nt→Code.rounds P c Q n a D.w:=by
     intro n
     induction n with
     |zero=>intro D f a h;simp[Vo]at h
     |succ n ihn=>
      intro D f a h X ID FD
      simp only[Vo]at h
      rw[rounds_succ]
      have rnd: ∀{e1 f1 h1},KS AZ (AW tb cl x) f D.H=some (e1,f1,h1)→ ∃f2 h2,AW tb cl x (keepL AZ f) D.H=some (e1,f2,h2)∧
        (e1= .normal→(f1,h1)=(keepL AZ f2,h2))∧(e1≠ .normal→f1=f2∧h1=h2):=by
       intro e1 f1 h1 hr
       simp only[KS]at hr
       obtain⟨⟨e2,f2,h2⟩,hp,hr⟩:=Option.map_eq_some_iff.1 hr
       cases e2<;>simp only[Prod.mk.injEq]at hr
       ·obtain⟨he1,hq⟩:=hr
        subst he1
        exact⟨f2,h2,hp,fun _=>by rw[hq.1,hq.2],fun h=>absurd rfl h⟩
       all_goals obtain⟨rfl,rfl,rfl⟩:=hr
       ·exact⟨_,_,hp,fun h=>(by cases h),fun _=>⟨rfl,rfl⟩⟩
       ·exact⟨_,_,hp,fun h=>(by cases h),fun _=>⟨rfl,rfl⟩⟩
      cases hr:KS AZ (AW tb cl x) f D.H with
      |none=>rw[hr]at h;simp at h
      |some p=>
       obtain⟨e1,f1,h1⟩:=p
       rw[hr]at h
       obtain⟨f2,h2,hx,hn,ho⟩:=rnd hr
       refine ih c hok hx ID (FD.keep AZ) fun D' a' N=> ?_
       by_cases hnorm:e1= .normal
       ·subst hnorm
        have hs:=hn rfl
        simp only[]at h
        simp only[exOf,Exit.then]
        obtain⟨X',ID',hH',FD'⟩:=N
        simp only[Prod.mk.injEq]at hs
        obtain⟨rfl,rfl⟩:=hs
        exact ihn (D:=D') (f:=keepL AZ f2) (by rw[hH'];exact h) (X.trans X') ID' (FD'.keep AZ)
       ·obtain⟨rfl,rfl⟩:=ho hnorm
        have h':some (e1,f1,h1)=some (e,f',h'):=by
         cases e1 with
         |normal=>exact absurd rfl hnorm
         |exit id=>simpa using h
         |ret=>simpa using h
        simp only[Option.some.injEq,Prod.mk.injEq]at h'
        obtain⟨rfl,rfl,rfl⟩:=h'
        have:=k D' a' ⟨X.trans N.ext,N.inv,N.heap,N.fr⟩
        cases e1 with
        |normal=>exact absurd rfl hnorm
        |exit id=>exact this
        |ret=>exact this
    exact wp_loop_rounds _ (key _ he (J1 C) I F)
   ·cases he
  |_=>simp[R0]at hok
end
end Go.Proofs.YtobejhpigbllpaaGreatDoor.Am
namespace Go.Proofs.YtobejhpigbllpaaGreatDoor.Am
def gO(P:Program):KR→ResultVar→Bool
 | .tmp t, .tmp u=>t==u
 | .cell ag n a, .cell b t=>a==b&&ag==EJ P t&&n==P.cellsOf t&&(P.underlying t).isSome
 |_,_=>false
def Py(P:Program):List KR→List ResultVar→Bool
 |[],[]=>true
 |x::r,y::q=>gO P x y&&Py P r q
 |_,_=>false
def Bn(T:HN→Oper→Bool)(P:Program)(fn:CI)(g:Nat):Bool:=
 match P.funcs[g]? with
 |some F=>(match F.body with
  |some c=>R0 T fn.nt fn.body c
  |none=>false)&& !(F.name== "runtime.NumGoroutine")&&fn.nt==F.ntmps&&decide (fn.np≤fn.nt)&&Py P fn.res F.results.toList
 |none=>false
section
variable{T:HN→Oper→Bool}{P:Program}{tb:CW}{cl:Nat→List AV→Av→KB}{nt:Nat}
theorem W9{C:Dt}(I:Inv tb C){t:TypeId}(hu:(P.underlying t).isSome=true){x:AV}{y:Value}(hr:FI C x y){v:AV}(h:load C.H (EJ P t) (P.cellsOf t) x=some v):
  ∃(p:Addr) (z:Value),y= .pointer (some p)∧(loadVar t p).run P C.w= .ok z C.w∧FI C v z:=by
 simp only[load]at h
 cases hp:place C.H x with
 |none=>rw[hp]at h;simp at h
 |some q=>
  obtain⟨cs,off⟩:=q
  rw[hp]at h
  simp only[Option.bind_some]at h
  split at h
  ·rename_i hle
   obtain⟨b,base,vs,e,hh,hl,hs⟩:=Z2 I hr hp
   have hsub:=hh.sub off (P.cellsOf t)
   have hrl:AX C (sub cs off (P.cellsOf t)) ((vs.drop off).take (P.cellsOf t)):=hl.drop.take
   have hlen:((vs.drop off).take (P.cellsOf t)).length=P.cellsOf t:=by
    rw[hrl.length];simp only[sub,List.length_take,List.length_drop];omega
   obtain⟨q1,q2⟩:=Up h (OF hs off _) hrl
   have hinfo:(P.info? t).isSome=true:=by
    obtain⟨d,hd⟩:=Option.isSome_iff_exists.1 hu
    exact info_of_underlying hd
   have hlc:=Ha (P:=P) hsub
   rw[hlen]at hlc
   cases hag:EJ P t with
   |true=>
    refine⟨_, .agg ((vs.drop off).take (P.cellsOf t)).toArray,e,?_,q1 hag⟩
    simp only[loadVar,Sem.run_bind,Sem.run_pure,Result.andThen_ok,EM t C.w hu,hag,if_true,BG hinfo,hlc]
   |false=>
    obtain⟨z,hz,rz⟩:=q2 hag
    have hc:C.w.cell? ⟨b,base+off,none⟩=some z:=by
     have:=hsub 0 z (by rw[hz];rfl)
     simpa using this
    refine⟨_,z,e,?_,rz⟩
    simp only[loadVar,Sem.run_bind,Result.andThen_ok,EM t C.w hu,hag,Bool.false_eq_true,if_false,run_load,hc]
  ·cases h
theorem gE{C:Dt}(I:Inv tb C){f:Fr}{a:Act}(F:Br C f a nt): ∀(l:List KR) (rs:List ResultVar),Py P l rs=true→ ∀{vs:List AV},results f C.H l=some vs→
  ∃xs:List Value,(rs.mapM (m:=Sem) fun
   | .tmp t=>pure (a.tmps.getD t undef)
   | .cell b t=>do loadVar t (←asAddr (a.tmps.getD b undef))).run P C.w= .ok xs C.w∧AX C vs xs:=by
 intro l
 induction l with
 |nil=>
  intro rs h vs e
  cases rs with
  |cons r rs=>simp[Py]at h
  |nil=>
   simp only[results,Option.some.injEq]at e
   subst e
   exact⟨[],by simp,rfl⟩
 |cons x l ih=>
  intro rs h vs e
  cases rs with
  |nil=>simp[Py]at h
  |cons r rs=>
   simp only[Py,Bool.and_eq_true]at h
   obtain⟨h1,h2⟩:=h
   cases x with
   |tmp t=>
    cases r with
    |cell b t=>simp[gO]at h1
    |tmp u=>
     simp only[gO,beq_iff_eq]at h1
     subst h1
     simp only[results]at e
     obtain⟨vs',hv,rfl⟩:=Option.map_eq_some_iff.1 e
     obtain⟨xs,q1,q2⟩:=ih rs h2 hv
     refine⟨a.tmps.getD t undef::xs,?_,⟨_,_,rfl,F.rep t,q2⟩⟩
     simp only[List.mapM_cons,Sem.run_bind,Sem.run_pure,Result.andThen_ok,q1]
   |cell ag n t=>
    cases r with
    |tmp u=>simp[gO]at h1
    |cell b ty=>
     simp only[gO,Bool.and_eq_true,beq_iff_eq]at h1
     obtain⟨⟨⟨rfl,rfl⟩,rfl⟩,hu⟩:=h1
     simp only[results]at e
     obtain⟨v,hv,e⟩:=Option.bind_eq_some_iff.1 e
     obtain⟨vs',hv',rfl⟩:=Option.map_eq_some_iff.1 e
     obtain⟨xs,q1,q2⟩:=ih rs h2 hv'
     obtain⟨p,z,hp,hz,rz⟩:=W9 I hu (F.rep t) hv
     refine⟨z::xs,?_,⟨_,_,rfl,rz,q2⟩⟩
     have ha:(asAddr (a.tmps.getD t undef)).run P C.w= .ok p C.w:=by rw[hp];rfl
     simp only[List.mapM_cons,Sem.run_bind,Sem.run_pure,Result.andThen_ok,ha,hz,q1]
def gK:List Value→Value
 |[x]=>x
 |xs=> .tuple xs.toArray
theorem NN{C:Dt}: ∀{vs:List AV} {xs:List Value},AX C vs xs→FI C (Gp vs) (gK xs)
 |[],xs,h=>by rw[show xs=[]from h];exact⟨[],rfl,rfl⟩
 |[v],xs,⟨x,q,e,h1,h2⟩=>by rw[e,show q=[]from h2];exact h1
 |v::u::vs,xs,⟨x,q,e,h1,⟨y,q',e',h2,h3⟩⟩=>by
  rw[e,e']
  exact⟨x::y::q',rfl,x,_,rfl,h1,y,_,rfl,h2,h3⟩
theorem fZ{fn:Func}{C:Dt}(I:Inv tb C){f:Fr}{a:Act}(F:Br C f a nt){l:List KR}(h:Py P l fn.results.toList=true){vs:List AV}(e:results f C.H l=some vs):
  ∃xs,(Go.results fn a.tmps).run P C.w= .ok (gK xs) C.w∧AX C vs xs:=by
 obtain⟨xs,h1,h2⟩:=gE I F l _ h e
 refine⟨xs,?_,h2⟩
 have hrun:(Go.results fn a.tmps).run P C.w= .ok (if h:xs.toArray.size=1 then xs.toArray[0]else .tuple xs.toArray) C.w:=by
  unfold Go.results
  rw[Array.mapM_eq_mapM_toList,Sem.run_bind,Sem.run_map]
  exact congrArg (fun r=>(Result.andThen (Result.andThen r fun a w'=> .ok a.toArray w') fun a w'=>Sem.run P (pure (if h:a.size=1 then a[0]else Value.tuple a)) w')) h1
 rw[hrun]
 match xs with
 |[]=>rfl
 |[x]=>rfl
 |x::y::xs=>simp[gK]
end
end Go.Proofs.YtobejhpigbllpaaGreatDoor.Am
namespace Go.Proofs.YtobejhpigbllpaaGreatDoor.Am
section
variable{T:HN→Oper→Bool}{P:Program}{tb:CW}{cl:Nat→List AV→Av→KB}{nt:Nat}
theorem U7{D:Dt}(I:Inv tb D){n id:Nat}(hid:id<D.H.length)(h: ¬id<n): ¬(D.cut n).own (D.φ id).blk:=by
 rintro⟨j,hj,e⟩
 simp only[Dt.cut,List.length_take]at hj
 have:=I.inj j id (by omega) hid e
 omega
theorem jE{D:Dt}{n:Nat}{v:AV}{x:Value}(h:B7 v≤n)(r:FI D v x):FI (D.cut n) v x∧(scal v=true→scal v=true):=⟨r.cut h,fun h=>h⟩
def FrzOk(D:Dt)(n:Nat)(F:AV→Option AV):Prop:= ∀(v v':AV) (x:Value),F v=some v'→FI D v x→FI (D.cut n) v' x∧(scal v=true→scal v'=true)
theorem Ly{D:Dt}{n:Nat}{F:AV→Option AV}(hF:FrzOk D n F): ∀{l l':List AV} {xs:List Value},D4 F l=some l'→AX D l xs→AX (D.cut n) l' xs∧(l.all scal=true→l'.all scal=true)∧l'.length=l.length
 |[],_,_,h,r=>by
  simp only[D4,Option.some.injEq]at h
  subst h
  exact⟨r,fun h=>h,rfl⟩
 |v::l,_,_,h,⟨x,q,e,r,rr⟩=>by
  simp only[D4]at h
  obtain⟨v',hv,h⟩:=Option.bind_eq_some_iff.1 h
  obtain⟨l',hl,rfl⟩:=Option.map_eq_some_iff.1 h
  obtain⟨h1,h2⟩:=hF _ _ _ hv r
  obtain⟨h3,h4,h5⟩:=Ly hF hl rr
  refine⟨⟨x,q,e,h1,h3⟩,fun hs=> ?_,by simp[h5]⟩
  simp only[List.all_cons,Bool.and_eq_true]at hs ⊢
  exact⟨h2 hs.1,h4 hs.2⟩
theorem NV{D:Dt}{n sz:Nat}{F:AV→Option AV}(hF:FrzOk D n F): ∀{l l':List (List AV)} {xs:List (List Value)},D4 (D4 F) l=some l'→AN D l xs→(∀e∈l,e.length=sz∧e.all scal=true)→
  AN (D.cut n) l' xs∧(∀e∈l',e.length=sz∧e.all scal=true)∧l'.length=l.length
 |[],_,_,h,r,_=>by
  simp only[D4,Option.some.injEq]at h
  subst h
  exact⟨r,fun e h=>(by cases h),rfl⟩
 |v::l,_,_,h,⟨x,q,e,r,rr⟩,hs=>by
  simp only[D4]at h
  obtain⟨v',hv,h⟩:=Option.bind_eq_some_iff.1 h
  obtain⟨l',hl,rfl⟩:=Option.map_eq_some_iff.1 h
  obtain⟨h1,h2,h6⟩:=Ly hF hv r
  obtain⟨h3,h4,h5⟩:=NV hF hl rr fun e he=>hs e (List.mem_cons_of_mem _ he)
  refine⟨⟨x,q,e,h1,h3⟩,fun e he=> ?_,by simp[h5]⟩
  have h0:=hs v List.mem_cons_self
  rcases List.mem_cons.1 he with rfl|he
  ·exact⟨h6.trans h0.1,h2 h0.2⟩
  ·exact h4 e he
theorem dI{D:Dt}(I:Inv tb D){n:Nat}: ∀d,FrzOk D n (frz D.H n d)
 |0=>fun v v' x h r=>by
  simp only[frz]at h
  split at h
  ·rename_i hm
   obtain rfl:=Option.some.inj h
   exact jE hm r
  ·cases h
 |d+1=>fun v v' x h r=>by
  simp only[frz]at h
  split at h
  ·rename_i hm
   obtain rfl:=Option.some.inj h
   exact jE hm r
  ·rename_i hm
   have ih:=dI I (n:=n) d
   split at h
   ·rename_i id k lo len
    have hid: ¬id<n:=by simp only[B7]at hm;omega
    obtain⟨_,fz,sz,els,hg,hle,q⟩:=r
    simp only[hg,Option.bind_some]at h
    split at h
    ·rename_i hc
     obtain⟨hk,hlo⟩:=hc
     obtain⟨els',he,rfl⟩:=Option.map_eq_some_iff.1 h
     refine⟨?_,fun _=>rfl⟩
     obtain⟨_,off,cap,rfl,hlc,hoff,_,_⟩:=q hk
     obtain⟨tl,hg',hlab⟩:=Ij hg
     obtain⟨vss,arr,et,fr,⟨h1,_⟩,h2,h3,h4,h5,h6,h7,h8,h9⟩:=I.obj id _ hg'
     have hlens:=AN.lens (fun x hx=>(h4 x hx).1) h5
     have hlen:((els.drop lo).take len).length=len:=by simp only[List.length_take,List.length_drop];omega
     obtain⟨q1,q2,q3⟩:=NV (sz:=sz) ih he (h5.drop.take) fun e he=>h4 e (List.mem_of_mem_drop (List.mem_of_mem_take he))
     refine .inl ⟨(D.φ id).blk,off,cap,(vss.drop lo).take len,by rw[q3,hlen],by rw[q3,hlen];exact hlc,I.lt id (AS hg'),U7 I (AS hg') hid,?_,q2,q1⟩
     intro j v hj
     have hpos:0<len:=by
      rcases Nat.eq_zero_or_pos len with h|h
      ·subst h;simp at hj
      ·exact h
     rw[hoff hpos]
     have hh:=h7.sub (lo*sz) (len*sz)
     refine hh j v ?_
     rw[Eb (sz:=sz) _ _ (fun x hx=>hlens x (List.mem_of_mem_drop hx)),E4 (sz:=sz) _ _ hlens]at hj
     exact hj
    ·cases h
   ·rename_i sz id off len
    have hid: ¬id<n:=by simp only[B7]at hm;omega
    obtain⟨_,o,cap,rfl,hlc,hoff,hsz⟩:=r
    obtain⟨cs,hc,h⟩:=Option.bind_eq_some_iff.1 h
    split at h
    ·rename_i hcond
     obtain⟨els',he,rfl⟩:=Option.map_eq_some_iff.1 h
     refine⟨?_,fun _=>rfl⟩
     obtain⟨tl,hg,hlab⟩:=N1 hc
     obtain⟨vs,arr,et,fr,⟨h1,_⟩,h2,h3,h4,h5,h6⟩:=I.obj id _ hg
     obtain⟨c1,c2,vss,c3,c4⟩:=UU (C:=D) sz len (cs.drop off) (vs.drop off) D.w (D.φ id).blk off (by
      simp only[List.all_eq_true]at h3 ⊢
      exact fun x hx=>h3 x (List.mem_of_mem_drop hx)) h4.drop (by
      have:=h5.sub off (vs.drop off).length
      rw[Nat.zero_add]at this
      rwa [List.take_of_length_le (Nat.le_refl _)]at this) (by simp only[List.length_drop];omega)
     obtain⟨q1,q2,q3⟩:=NV (sz:=sz) ih he c4 c2
     refine .inl ⟨(D.φ id).blk,o,cap,vss,by rw[q3,c1],by rw[q3,c1];exact hlc,I.lt id (AS hg),U7 I (AS hg) hid,?_,q2,q1⟩
     intro j v hj
     have hpos:0<len:=by
      rcases Nat.eq_zero_or_pos len with h|h
      ·subst h
       simp only[BP]at c4
       rw[show vss=[]from c4]at hj
       simp at hj
      ·exact h
     rw[hoff hpos]
     exact c3 j v hj
    ·cases h
   ·rename_i sz els
    obtain⟨els',he,rfl⟩:=Option.map_eq_some_iff.1 h
    refine⟨?_,fun _=>rfl⟩
    rcases r with ⟨b,base,cap,vss,rfl,hlc,hlt,hown,hh,hs,hr⟩|⟨rfl,p,cap,rfl⟩
    ·obtain⟨q1,q2,q3⟩:=NV (sz:=sz) ih he hr hs
     exact .inl ⟨b,base,cap,vss,by rw[q3],by rw[q3];exact hlc,hlt,SU hown,hh,q2,q1⟩
    ·simp only[D4,Option.some.injEq]at he
     subst he
     exact .inr ⟨rfl,p,cap,rfl⟩
   ·rename_i cs
    obtain⟨vs,e,s,q⟩:=r
    obtain⟨cs',hc,rfl⟩:=Option.map_eq_some_iff.1 h
    obtain⟨h1,h2,_⟩:=Ly ih hc q
    exact⟨⟨vs,e,h2 s,h1⟩,fun h=>by simp[scal]at h⟩
   ·rename_i cs
    obtain⟨vs,e,q⟩:=r
    obtain⟨cs',hc,rfl⟩:=Option.map_eq_some_iff.1 h
    exact⟨⟨vs,e,(Ly ih hc q).1⟩,fun h=>by simp[scal]at h⟩
   ·cases h
theorem yU{D:Dt}(I:Inv tb D){n:Nat}{l l':List AV}{xs:List Value}(h:dJ D.H n l=some l')(r:AX D l xs):AX (D.cut n) l' xs∧(l.all scal=true→l'.all scal=true):=
 ⟨(Ly (dI I 12) h r).1,(Ly (dI I 12) h r).2.1⟩
theorem hQ{C D:Dt}(X:KU C D)(I:Inv tb D)(hg: ∀g cs,tb.gl g=some cs→Bg cs=0){vs:List AV}{xs:List Value}(h:AX D vs xs):
  ∃D':Dt,KU C D'∧Inv tb D'∧D'.w=D.w∧D'.H=(WY C.H.length D.H vs).2.getD C.H∧FI D' (WY C.H.length D.H vs).1 (gK xs):=by
 unfold WY
 split
 ·rename_i vs' hf
  split
  ·rename_i hm
   exact⟨D.cut C.H.length,X.cut (Nat.le_refl _),I.cut hm hg,rfl,rfl,NN (yU I hf h).1⟩
  ·exact⟨D,X,I,rfl,rfl,NN h⟩
 ·exact⟨D,X,I,rfl,rfl,NN h⟩
theorem lU{C D:Dt}(X:KU C D)(I:Inv tb D)(hg: ∀g cs,tb.gl g=some cs→Bg cs=0){warm:Bool}{vs:List AV}{xs:List Value}(h:AX D vs xs):
  ∃D':Dt,KU C D'∧Inv tb D'∧D'.w=D.w∧D'.H=(WM warm C.H.length D.H vs).2.getD C.H∧FI D' (WM warm C.H.length D.H vs).1 (gK xs):=by
 cases warm
 ·exact hQ X I hg h
 ·exact⟨D,X,I,rfl,rfl,NN h⟩
theorem jC: ∀(l:List AV) (k t:Nat),get ((l.zipIdx k).map fun p=>(p.2,p.1)) t=if k≤t then l[t-k]?.getD .junk else .junk
 |[],k,t=>by simp[get]
 |v::l,k,t=>by
  simp only[List.zipIdx_cons,List.map_cons,get]
  rw[jC l (k+1) t]
  by_cases h:k=t
  ·subst h;simp
  ·rw[if_neg h]
   by_cases h1:k≤t
   ·rw[if_pos (show k+1≤t by omega),if_pos h1,show t-k=(t-(k+1))+1 by omega]
    simp
   ·rw[if_neg (by omega),if_neg h1]
theorem fr_args{C:Dt}{args:List AV}{vs:List Value}(h:AX C args vs){m:Nat}(hm:args.length≤m):
  Br C (args.zipIdx.map fun p=>(p.2,p.1)) {tmps:=vs.toArray++Array.replicate (m-vs.toArray.size) undef,defers:=[]} m:=by
 have hl:=h.length
 refine⟨fun t=> ?_,by simp;omega,rfl⟩
 rw[jC,if_pos (Nat.zero_le _),Nat.sub_zero]
 cases ht:args[t]? with
 |none=>trivial
 |some v=>
  obtain⟨x,hx,r⟩:=h.get ht
  have:t<vs.length:=AS hx
  simp only[Option.getD_some,Array.getD_eq_getD_getElem?]
  rw[Array.getElem?_append_left (by simpa using this)]
  simpa [hx]using r
theorem Z8{fn:CI}{g:Nat}(h:Bn T P fn g=true): ∃(F:Func) (c:Code),P.funcs[g]? =some F∧F.body=some c∧R0 T fn.nt fn.body c=true∧(F.name== "runtime.NumGoroutine")=false∧fn.nt=F.ntmps∧fn.np≤fn.nt∧
  Py P fn.res F.results.toList=true:=by
 unfold Bn at h
 split at h
 ·rename_i F hF
  simp only[Bool.and_eq_true,Bool.not_eq_true',beq_iff_eq,decide_eq_true_eq]at h
  obtain⟨⟨⟨⟨h1,h2⟩,h3⟩,h4⟩,h5⟩:=h
  split at h1
  ·rename_i c hc
   exact⟨F,c,hF,hc,h1,h2,h3,h4,h5⟩
  ·cases h1
 ·cases h
theorem XT(hm:P.follows .mixedOrders=true)(hT: ∀ao o,T ao o=true→Dq P tb ao o)(hcl:Fv P tb fun g args h=>B1 tb cl h g args)(hg: ∀g cs,tb.gl g=some cs→Bg cs=0)
  {fn:CI} {g:Nat} (hok:Bn T P fn g=true) {C:Dt} {args:List AV} {vs:List Value} {r:AV×Option Av} (I:Inv tb C) (hr:AX C args vs) (h:body tb cl fn args C.H=some r):
  Calls P g vs.toArray C.w (qY tb C r):=by
 obtain⟨F,c,hF,hc,h1,h2,h3,h4,h5⟩:=Z8 hok
 simp only[body]at h
 split at h
 ·rename_i hnp
  obtain⟨⟨e,f,h'⟩,he,h⟩:=Option.bind_eq_some_iff.1 h
  refine calls_of_wp hF hc ?_
  rw[←h3]
  refine nY hm hT hcl hg fn.body c h1 he I (fr_args hr (by omega)) fun D a' N=> ?_
  obtain⟨X,ID,hH,FD⟩:=N
  have fin: ∀us,results f h' fn.res=some us→WM fn.warm C.H.length h' us=r→ ∃v,(Go.results F a'.tmps).run P D.w= .ok v D.w∧qY tb C r (.returned v) D.w:=by
   intro us hus hl
   rw[←hH]at hus hl
   obtain⟨xs,hx,rx⟩:=fZ ID FD h5 hus
   obtain⟨D',X',I',hw,hH',r'⟩:=lU (warm:=fn.warm) X ID hg rx
   rw[hl]at hH' r'
   exact⟨_,hx,_,D',rfl,X',I',hw,hH',r'⟩
  cases e with
  |exit id=>simp at h
  |normal=>
   obtain⟨us,hus,hl⟩:=Option.map_eq_some_iff.1 h
   exact⟨FD.defers,fin us hus hl⟩
  |ret=>
   obtain⟨us,hus,hl⟩:=Option.map_eq_some_iff.1 h
   exact⟨FD.defers,fin us hus hl⟩
 ·cases h
structure Fits(T:HN→Oper→Bool)(P:Program)(tb:CW):Prop where
 mixed:P.follows .mixedOrders=true
 ops: ∀ao o,T ao o=true→Dq P tb ao o
 prims:qV P tb
 gl: ∀g cs,tb.gl g=some cs→Bg cs=0
 fns: ∀g fn,tb.fns g=some fn→Bn T P fn g=true
theorem kL{fn:CI}{g:Nat}(hok:Bn T P fn g=true)(vs:Array Value)(w:World):(callFunc g vs).run P w= .ok (.enter g vs) w:=by
 obtain⟨F,c,hF,hc,_,h2,_⟩:=Z8 hok
 have h2': ¬F.name= "runtime.NumGoroutine" :=by simpa using h2
 simp[callFunc,hF,hc,h2']
theorem Zv(ft:Fits T P tb): ∀n,Fv P tb (run tb n)
 |0=>fun g C args vs r I hr h=>by simp[run]at h
 |n+1=>fun g C args vs r I hr h=>by
  simp only[run]at h
  obtain⟨fn,hfn,h⟩:=Option.bind_eq_some_iff.1 h
  have hok:=ft.fns g fn hfn
  exact .inr ⟨g,vs.toArray,kL hok _ _,XT ft.mixed ft.ops (OV ft.prims (Zv ft n)) ft.gl hok I hr h⟩
theorem tQ(ft:Fits T P tb){g:Nat}{C:Dt}{args:List AV}{vs:List Value}{r:AV×Option Av}(I:Inv tb C)(hr:AX C args vs)(h:Ch tb g args C.H=some r):Calls P g vs.toArray C.w (qY tb C r):=by
 unfold Ch at h
 split at h
 ·generalize Classical.choose _=n at h
  cases n with
  |zero=>simp[run]at h
  |succ n=>
   simp only[run]at h
   obtain⟨fn,hfn,h⟩:=Option.bind_eq_some_iff.1 h
   exact XT ft.mixed ft.ops (OV ft.prims (Zv ft n)) ft.gl (ft.fns g fn hfn) I hr h
 ·cases h
end
end Go.Proofs.YtobejhpigbllpaaGreatDoor.Am
namespace Go.Proofs.YtobejhpigbllpaaGreatDoor.Am
def dW(P:Program)(g:Nat):Option (Array Value→Sem Value):=
 match P.funcs[g]? with
 |some fn=>if !(fn.name== "runtime.NumGoroutine")&&fn.body.isNone&&(Extern.findNext fn).isNone then Extern.find fn else none
 |none=>none
def PL(h:Av):AV→Option (List UInt8)
 | .s l=>some l
 |v=>(Eu h 1 v).bind Ev
def Px:List AV→Av→Option (AV×Option Av)
 |[x,y],h=>(PL h x).bind fun a=>(PL h y).map fun b=>(.i .i64 (Extern.BytealgCompare.cmp ⟨a.toArray⟩ ⟨b.toArray⟩),none)
 |_,_=>none
section
variable{P:Program}{tb:CW}{C:Dt}
theorem bY{g:Nat}{e:Array Value→Sem Value}(he:dW P g=some e){vs:Array Value}{v:Value}{w:World}(h:(e vs).run P w= .ok v w):(callFunc g vs).run P w= .ok (.value v) w:=by
 unfold dW at he
 split at he
 ·rename_i fn hf
  split at he
  ·rename_i hc
   simp only[Bool.and_eq_true,Bool.not_eq_true',Option.isNone_iff_eq_none]at hc
   obtain⟨⟨h1,h2⟩,h3⟩:=hc
   have h2':fn.body.isNone=true:=by rw[h2];rfl
   simp only[callFunc,Sem.run_bind,run_program,Result.andThen_ok,hf,h1,Bool.false_eq_true,if_false,h2',if_true,run_mark,h3,he,h,Sem.run_pure]
  ·cases he
 ·cases he
theorem tX{e:List AV}{r:List (List AV)}{l:List UInt8}(h:Ev (e::r)=some l): ∃n q,e=[.i .u8 n]∧Ev r=some q∧l=UInt8.ofNat n.toNat::q:=by
 unfold Ev at h
 split at h
 ·rename_i he;cases he
 ·rename_i n r' he
  cases he
  obtain⟨q,hq,rfl⟩:=Option.map_eq_some_iff.1 h
  exact⟨n,q,rfl,hq,rfl⟩
 ·cases h
theorem vF(w:World)(b:Nat): ∀(els:List (List AV)) (vss:List (List Value)) (l:List UInt8) (o:Nat) (acc:ByteArray),AN C els vss→Ev els=some l→DH w b o vss.flatten→
  (Extern.Bytes.loadBytes ⟨b,o,none⟩ els.length acc).run P w= .ok ⟨acc.data++l.toArray⟩ w
 |[],_,l,o,acc,_,h,_=>by
  simp only[Ev,Option.some.injEq]at h
  subst h
  simp[Extern.Bytes.loadBytes]
 |e::els,vss,l,o,acc,⟨v,q,e1,r1,r2⟩,h,hh=>by
  subst e1
  obtain⟨n,l',rfl,hl,rfl⟩:=tX h
  obtain⟨u,us,e2,ru,e3⟩:=r1
  have e3':us=[]:=e3
  have ru':u= .int .u8 n:=ru
  subst e3';subst e2;subst ru'
  have h0:w.cell? ⟨b,o,none⟩=some (.int .u8 n):=by
   have:=hh 0 (.int .u8 n) (by simp)
   simpa using this
  have hn:(⟨b,o,none⟩:Addr).add 1=⟨b,o+1,none⟩:=rfl
  have ih:=vF w b els q l' (o+1) (acc.push n.toNat.toUInt8) r2 hl (fun j v hj=>by
   have:=hh (j+1) v (by simpa using hj)
   rw[show o+1+j=o+(j+1) by omega]
   exact this)
  simp only[List.length_cons,Extern.Bytes.loadBytes,Sem.run_bind,run_load,h0,Result.andThen_ok,hn,ih]
  congr 1
  apply ByteArray.ext
  simp[ByteArray.push,Nat.toUInt8]
theorem TE(I:Inv tb C){x:AV}{v:Value}{l:List UInt8}(r:FI C x v)(h:PL C.H x=some l):(Extern.Bytes.bytesOf v).run P C.w= .ok ⟨l.toArray⟩ C.w:=by
 have slc:(Eu C.H 1 x).bind Ev=some l→(Extern.Bytes.bytesOf v).run P C.w= .ok ⟨l.toArray⟩ C.w:=by
  intro h
  obtain⟨els,he,hl⟩:=Option.bind_eq_some_iff.1 h
  rcases dY I (by omega) r he with ⟨rfl,e⟩|⟨q,cap,vss,e,hlc,hh,hs,hr⟩
  ·subst e
   simp only[Ev,Option.some.injEq]at hl
   subst hl
   rfl
  ·subst e
   by_cases hne:els=[]
   ·subst hne
    simp only[Ev,Option.some.injEq]at hl
    subst hl
    rfl
   ·obtain⟨b,base,rfl,hh2⟩:=hh hne
    have:=vF (P:=P) (C:=C) C.w b els vss l base .empty hr hl hh2
    simp only[Extern.Bytes.bytesOf,this]
    congr 1
    apply ByteArray.ext
    show(#[]:Array UInt8)++l.toArray=l.toArray
    simp
 cases x<;>simp only[PL]at h<;>try exact slc h
 obtain rfl:=Option.some.inj h
 have e:v= .string ⟨_⟩:=r
 subst e
 rfl
theorem cE{g:Nat}(he:dW P g=some Extern.BytealgCompare.compare):Fv P tb fun g' args h=>if g'=g then Px args h else none:=by
 intro g' D args vs r I hr h
 dsimp only at h
 split at h
 ·rename_i hg
  subst hg
  unfold Px at h
  split at h
  ·rename_i x y h'
   obtain⟨v,vs',e1,r1,v2,vs2,e2,r2,e3⟩:=hr
   have e3':vs2=[]:=e3
   subst e3';subst e2;subst e1
   obtain⟨a,ha,h⟩:=Option.bind_eq_some_iff.1 h
   obtain⟨b,hb,rfl⟩:=Option.map_eq_some_iff.1 h
   refine .inl (A0 I (v:= .int .i64 (Extern.BytealgCompare.cmp ⟨a.toArray⟩ ⟨b.toArray⟩)) (bY he ?_) rfl)
   change Sem.run P (do pure (goInt (Extern.BytealgCompare.cmp (←Extern.Bytes.bytesOf v) (←Extern.Bytes.bytesOf v2)))) D.w=_
   simp only[Sem.run_bind,TE I r1 ha,TE I r2 hb,Result.andThen_ok,Sem.run_pure,goInt]
  ·cases h
 ·cases h
end
end Go.Proofs.YtobejhpigbllpaaGreatDoor.Am
namespace Go.Proofs.YtobejhpigbllpaaGreatDoor.Am
def Nw(l:List UInt8)(c:UInt8):Int:=match l.findIdx? (fun x=>x==c)with
 |some i=>(i:Int)
 |none=> -1
def zQ:AV→Option UInt8
 | .i .u8 n=>some (UInt8.ofNat n.toNat)
 |_=>none
def gL(f:List UInt8→UInt8→Int):List AV→Av→Option (AV×Option Av)
 |[x,y],h=>(zQ y).bind fun c=>(PL h x).map fun a=>(.i .i64 (f a c),none)
 |_,_=>none
def WP:List AV→Av→Option (AV×Option Av):=gL Nw
theorem find_range{l:List UInt8}{c:UInt8}:((List.range l.length).find? fun i=>l.toArray[i]! ==c)=l.findIdx? (fun x=>x==c):=by
 have key: ∀(m:List UInt8) (k:Nat),k+m.length=l.length→(∀i,m[i]? =l[k+i]?)→((List.range' k m.length).find? fun i=>l.toArray[i]! ==c)=(m.findIdx? (fun x=>x==c)).map (k+ ·):=by
  intro m
  induction m with
  |nil=>intro k _ _;rfl
  |cons x m ih=>
   intro k hk he
   have h0:l.toArray[k]! =x:=by
    have:=he 0
    simp only[List.getElem?_cons_zero,Nat.add_zero]at this
    simp[←this]
   rw[List.length_cons,List.range'_succ,List.find?_cons,h0,List.findIdx?_cons]
   cases hx:x==c with
   |true=>simp
   |false=>
    simp only[Bool.false_eq_true,if_false]
    rw[ih (k+1) (by simp at hk;omega) (fun i=>by have:=he (i+1);simp only[List.getElem?_cons_succ]at this;rw[this];congr 1;omega)]
    cases m.findIdx? (fun x=>x==c)with
    |none=>rfl
    |some i=>simp;omega
 have:=key l 0 (by simp) (fun i=>by simp)
 rw[List.range_eq_range',this]
 cases l.findIdx? (fun x=>x==c)<;>simp
theorem vG{l:List UInt8}{c:UInt8}:(match(List.range (⟨l.toArray⟩:ByteArray).size).find? fun i=>(⟨l.toArray⟩:ByteArray)[i]! ==c with
  |some i=>goInt i
  |none=>goInt (-1))= .int .i64 (Nw l c):=by
 have h:(List.range (⟨l.toArray⟩:ByteArray).size).find? (fun i=>(⟨l.toArray⟩:ByteArray)[i]! ==c)=l.findIdx? (fun x=>x==c):=by
  rw[←find_range]
  congr 1
  funext i
  congr 1
  by_cases hi:i<l.length
  ·rw[getElem!_pos _ _ (by simpa [ByteArray.size]using hi),getElem!_pos _ _ (by simpa using hi)];rfl
  ·rw[getElem!_neg _ _ (by simpa [ByteArray.size]using hi),getElem!_neg _ _ (by simpa using hi)]
 rw[h]
 unfold Nw
 cases l.findIdx? (fun x=>x==c)<;>rfl
section
variable{P:Program}{tb:CW}
theorem rX{g:Nat}{f:List UInt8→UInt8→Int}{e:Array Value→Sem Value}(he:dW P g=some e)
  (hf: ∀(v:Value) (n:Int) (l:List UInt8) (w:World),(Extern.Bytes.bytesOf v).run P w= .ok ⟨l.toArray⟩ w→(e #[v, .int .u8 n]).run P w= .ok (.int .i64 (f l (UInt8.ofNat n.toNat))) w):Fv P tb fun g' args h=>if g'=g then gL f args h else none:=by
 intro g' D args vs r I hr h
 dsimp only at h
 split at h
 ·rename_i hg
  subst hg
  unfold gL at h
  split at h
  ·rename_i hh x y
   obtain⟨v,vs',e1,r1,v2,vs2,e2,r2,e3⟩:=hr
   have e3':vs2=[]:=e3
   subst e3';subst e2;subst e1
   obtain⟨c,hc,h⟩:=Option.bind_eq_some_iff.1 h
   obtain⟨a,ha,rfl⟩:=Option.map_eq_some_iff.1 h
   unfold zQ at hc
   cases y with
   |i k n=>
    have r2':v2= .int k n:=r2
    subst r2'
    cases k<;>simp only[reduceCtorEq,Option.some.injEq]at hc
    subst hc
    exact .inl (A0 I (v:= .int .i64 (f a (UInt8.ofNat n.toNat))) (bY he (hf v n a D.w (TE (P:=P) I r1 ha))) rfl)
   |_=>cases hc
  ·cases h
 ·cases h
theorem WO{g:Nat}(he:dW P g=some Extern.BytealgIndexByte.indexByte):Fv P tb fun g' args h=>if g'=g then WP args h else none:=
 rX he fun v n l w h=>by
  change Sem.run P (do
   let b←Extern.Bytes.bytesOf v
   let c←Extern.Bytes.asByte (.int .u8 n)
   match(List.range b.size).find? fun i=>b[i]! ==c with
   |some i=>pure (goInt i)
   |none=>pure (goInt (-1))) w=_
  simp only[Sem.run_bind,h,Result.andThen_ok,Extern.Bytes.asByte,Sem.run_pure]
  have:=vG (l:=l) (c:=UInt8.ofNat n.toNat)
  have hc:n.toNat.toUInt8=UInt8.ofNat n.toNat:=rfl
  rw[hc]
  split<;>rename_i hx<;>rw[hx]at this<;>simp only[]at this<;>rw[←this]<;>rfl
end
def OL:List AV→Av→Option (AV×Option Av)
 |[x],_=>some (x,none)
 |_,_=>none
theorem rV{P:Program}{tb:CW}{g:Nat}(he:dW P g=some Extern.AbiNoEscape.same):Fv P tb fun g' args h=>if g'=g then OL args h else none:=by
 intro g' D args vs r I hr h
 dsimp only at h
 split at h
 ·rename_i hg
  subst hg
  unfold OL at h
  split at h
  ·cases h
   obtain⟨v,vs',e1,r1,e3⟩:=hr
   have e3':vs'=[]:=e3
   subst e3';subst e1
   exact .inl (A0 I (v:=v) (bY he rfl) r1)
  ·cases h
 ·cases h
end Go.Proofs.YtobejhpigbllpaaGreatDoor.Am
namespace Go.Proofs.YtobejhpigbllpaaGreatDoor.Am
section
variable{tb:CW}{Γ:Cx}{a b:AO}
inductive eQ(tb:CW)(Γ:Cx):(As:List T)→List AO→BS As→Prop where
 |nil:eQ tb Γ [] [] ()
 |one {a:AO} {t:T} {x:t.α} (h:C7 tb Γ a (.val t x)):eQ tb Γ [t] [a] x
 |cons {a:AO} {t u:T} {x:t.α} {As:List T} {l:List AO} {y:BS (u::As)} (h:C7 tb Γ a (.val t x)) (k:eQ tb Γ (u::As) l y):eQ tb Γ (t::u::As) (a::l) (x,y)
theorem eQ.spec{E:Ph}{rv:Nat→AV}{fp:Fp}{f:Fr}{H:Av}(R:Bo E Γ rv fp f H): ∀{As:List T} {l:List AO} {x:BS As},eQ tb Γ As l x→UY (Pf E Γ.ss fp H) H As (l.map (eval tb f)) x
 |_,_,_, .nil=>rfl
 |_,_,_, .one h=>⟨_,rfl,h E rv fp f H R⟩
 |_,_,_, .cons h k=>⟨_,_,rfl,h E rv fp f H R,k.spec R⟩
def rB:(Rs:List T)→BS Rs→List (Σ t:T,t.α)
 |[],_=>[]
 |[a],x=>[⟨a,x⟩]
 |a::b::r,x=>⟨a,x.1⟩::rB (b::r) x.2
theorem eZ{P:Nat→Prop}{H:Av}: ∀{Rs:List T} {vs:List AV} {x:BS Rs},UY P H Rs vs x→VL P H vs (rB Rs x)
 |[],_,_,h=>by rw[show _=[]from h];trivial
 |[a],_,_,⟨v,e,h⟩=>by rw[e];exact⟨h,trivial⟩
 |a::b::r,_,_,⟨v,q,e,h,g⟩=>by rw[e];exact⟨h,eZ g⟩
def vY:(Rs:List T)→BS Rs→AK
 |[a],x=> .val a x
 |Rs,x=> .tup (rB Rs x)
theorem WQ{rv:Nat→AV}{ss:Ss}{P:Nat→Prop}{H:Av}{v:AV}: ∀{Rs:List T} {x:BS Rs},OutR P H Rs v x→FR rv ss P H (vY Rs x) v
 |[],_,⟨vs,e,h⟩=>by rw[e,show vs=[]from h];exact⟨[],rfl,trivial⟩
 |[a],_,⟨vs,e,v,e',h⟩=>by rw[e,e'];exact h
 |a::b::r,_,⟨vs,e,h⟩=>by
  have hh:=h
  obtain⟨v1,q,e1,h1,h2⟩:=h
  have: ∃v2 q2,q=v2::q2:=by
   cases r with
   |nil=>obtain⟨v2,e2,_⟩:=h2;exact⟨v2,[],e2⟩
   |cons c r=>obtain⟨v2,q2,e2,_⟩:=h2;exact⟨v2,q2,e2⟩
  obtain⟨v2,q2,e2⟩:=this
  refine⟨vs,?_,eZ hh⟩
  rw[e,e1,e2];rfl
theorem yQ{g:Nat}{As Rs:List T}{F:BS As→Option (BS Rs)}{l:List AO}{x:BS As}(sp:Spec tb g As Rs F)(hx:eQ tb Γ As l x):Fw tb Γ (.call g l) (F x) fun r=>vY Rs r:=by
 intro E rv fp f H R r hr
 obtain⟨v,u,h1,h2,h3⟩:=(sp (Pf E Γ.ss fp H) H _ x R.ltP R.wf (hx.spec R) r hr).call
 exact⟨v,u,by simp only[Bp];exact h1,h2,WQ h3⟩
theorem A2{g:Nat}{As:List T}{t:T}{F:BS As→Option (BS [t])}{l:List AO}{x:BS As}(sp:Spec tb g As [t] F)(hx:eQ tb Γ As l x):Fw tb Γ (.call g l) (F x) fun r:t.α=> .val t r:=yQ sp hx
theorem Ik{g:Nat}{As:List T}{t u:T}{Rs:List T}{F:BS As→Option (BS (t::u::Rs))}{l:List AO}{x:BS As}(sp:Spec tb g As (t::u::Rs) F)(hx:eQ tb Γ As l x):Fw tb Γ (.call g l) (F x) fun r=> .tup (rB (t::u::Rs) r):=yQ sp hx
theorem Ci{l:List (Σ t:T,t.α)}{i:Nat}{t:T}{x:t.α}(ha:C7 tb Γ a (.tup l))(h:l[i]? =some ⟨t,x⟩):Fw tb Γ (.ext a i) (some ()) fun _=> .val t x:=by
 rintro E rv fp f H R _ ⟨⟩
 obtain⟨vs,e,hv⟩:=ha E rv fp f H R
 have: ∀{vs:List AV} {l:List (Σ t:T,t.α)} {i:Nat} {p: Σ t:T,t.α},VL (Pf E Γ.ss fp H) H vs l→l[i]? =some p→ ∃v,vs[i]? =some v∧p.1.V (Pf E Γ.ss fp H) H v p.2:=by
  intro vs
  induction vs with
  |nil=>intro l i p h e;cases l with|nil=>simp at e|cons=>exact h.elim
  |cons v vs ih=>
   intro l i p h e
   cases l with
   |nil=>exact h.elim
   |cons q l=>
    cases i with
    |zero=>simp only[List.getElem?_cons_zero,Option.some.injEq]at e;subst e;exact⟨v,rfl,h.1⟩
    |succ i=>simp only[List.getElem?_cons_succ]at e;obtain⟨w,h1,h2⟩:=ih h.2 e;exact⟨w,by simpa using h1,h2⟩
 obtain⟨v,h1,h2⟩:=this hv h
 exact⟨v,none,by simp only[Bp,e,h1,val,Option.map_some],rfl,h2⟩
end
structure CT(t:T)(l:List CK) where
 d:(x y:t.α)→Decidable (x=y)
 h: ∀{P Q:Nat→Prop} {H G:Av} {c c':List AV} {x y:t.α},t.R P H c x→t.R Q G c' y→L3 l c c'=some (@decide (x=y) (d x y))
theorem qB{l m:List CK}: ∀{c d c' d':List AV} {p q:Bool},L3 l c c'=some p→L3 m d d'=some q→L3 (l++m) (c++d) (c'++d')=some (p&&q):=by
 induction l with
 |nil=>
  intro c d c' d' p q h g
  match c,c',h with
  |[],[],h=>simp only[L3,Option.some.injEq]at h;subst h;simpa using g
 |cons k l ih=>
  intro c d c' d' p q h g
  match c,c',h with
  |[],[],h=>simp[L3]at h
  |[],_::_,h=>simp[L3]at h
  |_::_,[],h=>simp[L3]at h
  |x::c,y::c',h=>
   simp only[L3]at h
   obtain⟨e,he,h⟩:=Option.bind_eq_some_iff.1 h
   obtain⟨e',he',rfl⟩:=Option.map_eq_some_iff.1 h
   simp only[List.cons_append,L3,he,Option.bind_some,ih he' g,Option.map_some,Bool.and_assoc]
theorem dZ{p q:Prop}{d:Decidable p}{e:Decidable q}(h:p↔q): @decide p d= @decide q e:=by
 rw[Bool.eq_iff_iff];simp only[decide_eq_true_eq];exact h
theorem dec_of{p:Prop}{d:Decidable p}{q:Bool}(h:q=true↔p):q= @decide p d:=by
 rw[Bool.eq_iff_iff];simp only[decide_eq_true_eq];exact h
def We{α:Type}{c:α→AV}{z:α}{hs: ∀x,scal (c x)=true}{hm: ∀x,B7 (c x)=0}(k:CK)(d:(x y:α)→Decidable (x=y))(h: ∀x y,tN k (c x) (c y)=some (@decide (x=y) (d x y))):CT (Tm α c z hs hm) [k]:=
 ⟨d,fun{P Q H G c' d' x y} h1 h2=>by
  rw[show c'=_ from h1,show d'=_ from h2]
  show(tN k (c x) (c y)).bind (fun a=>(some true).map fun b=>a&&b)=_
  rw[h x y]
  simp only[Option.bind_some,Option.map_some,Bool.and_true]
  rfl⟩
def CT.b:CT T.b [.b]:=We .b (fun x y=>inferInstance) fun x y=>by cases x<;>cases y<;>rfl
def CT.int(k:IntKind):CT (T.int k) [.i k]:=We (.i k) (fun x y=>inferInstance) fun x y=>by simp only[tN,and_self,if_true];rfl
theorem yZ{x y:Nat}:((x:Int)==(y:Int))=decide (x=y):=by
 rw[Bool.eq_iff_iff];simp only[beq_iff_eq,decide_eq_true_eq];omega
def CT.u8:CT T.u8 [.i .u8]:=We (.i .u8) (fun x y=>inferInstance) fun x y=>by
 simp only[tN,and_self,if_true,yZ];congr 1;exact dZ UInt8.toNat_inj
def CT.u64:CT T.u64 [.i .u64]:=We (.i .u64) (fun x y=>inferInstance) fun x y=>by
 simp only[tN,and_self,if_true,yZ];congr 1;exact dZ UInt64.toNat_inj
def JW{s t:T}{l m:List CK}(p:CT s l)(q:CT t m):CT (CE s t) (l++m):=
 ⟨fun x y=> @decidable_of_iff _ (x.1=y.1∧x.2=y.2) ⟨fun h=>Prod.ext h.1 h.2,fun h=>by rw[h];exact⟨rfl,rfl⟩⟩ (have:=p.d x.1 y.1;have:=q.d x.2 y.2;inferInstance),fun{P Q H G c c' x y} ⟨c1,d1,e1,h1,g1⟩ ⟨c2,d2,e2,h2,g2⟩=>by
  rw[e1,e2,qB (p.h h1 h2) (q.h g1 g2)]
  congr 1
  rw[Bool.eq_iff_iff]
  simp only[Bool.and_eq_true,decide_eq_true_eq]
  exact⟨fun h=>Prod.ext h.1 h.2,fun h=>by rw[h];exact⟨rfl,rfl⟩⟩⟩
def Tq{t:T}{l:List CK}{β:Type}{f:β→t.α}{g:t.α→β}{hfg: ∀y,f (g y)=y}(p:CT t l)(d:(x y:β)→Decidable (x=y))(hi: ∀x y,f x=f y→x=y):CT (OW t β f g hfg) l:=
 ⟨d,fun{P Q H G c c' x y} h1 h2=>by
  have:=p.h (x:=f x) (y:=f y) h1 h2
  rw[this]
  congr 1
  exact dZ ⟨hi x y,fun h=>by rw[h]⟩⟩
def repK(l:List CK):Nat→List CK
 |0=>[]
 |n+1=>l++repK l n
theorem CT.all{t:T}{l:List CK}(p:CT t l){P Q:Nat→Prop}{H G:Av}: ∀{c c':List (List AV)} {x y:List t.α},x.length=y.length→CG t P H c x→CG t Q G c' y→ ∃q,L3 (repK l x.length) c.flatten c'.flatten=some q∧(q=true↔x=y):=by
 intro c
 induction c with
 |nil=>
  intro c' x y hl h1 h2
  match x,h1 with
  |[],_=>
   match c',y,h2,hl with
   |[],[],_,_=>exact⟨true,rfl,by simp⟩
   |_::_,_::_,_,hl=>simp at hl
 |cons a c ih=>
  intro c' x y hl h1 h2
  match x,h1 with
  |u::x,h1=>
   match c',y,h2 with
   |[],[],_=>simp at hl
   |a'::c',v::y,h2=>
    obtain⟨q,e,hq⟩:=ih (by simpa using hl) h1.2 h2.2
    refine⟨_,by rw[List.length_cons,repK,List.flatten_cons,List.flatten_cons];exact qB (p.h h1.1 h2.1) e,?_⟩
    simp only[Bool.and_eq_true,decide_eq_true_eq,hq,List.cons.injEq]
def Hs{t:T}{l:List CK}(n:Nat)(p:CT t l):CT (Ay n t) (repK l n):=
 ⟨fun(x y:Ar t.α n)=> @decidable_of_iff _ (x.l=y.l) ⟨fun h=>Ar.ext h,fun h=>by rw[h]⟩ (have:DecidableEq t.α:=p.d;inferInstance),fun{P Q H G c c' x y} ⟨cs,e,h⟩ ⟨ds,e',h'⟩=>by
  obtain⟨q,hq,hi⟩:=p.all (x.len.trans y.len.symm) h h'
  rw[x.len]at hq
  rw[e,e',hq]
  congr 1
  exact dec_of (hi.trans ⟨fun h=>Ar.ext h,fun h=>by rw[h]⟩)⟩
section
variable{tb:CW}{Γ:Cx}{a b:AO}
theorem QA{t:T}{l l':List CK}{x y:t.α}{neg:Bool}(p:CT t l)(ht:t.agg=true)(hl:l'=l)(ha:C7 tb Γ a (.val t x))(hb:C7 tb Γ b (.val t y)):Fw tb Γ (.eq neg (.agg l') a b) (some (if neg then !(@decide (x=y) (p.d x y))else @decide (x=y) (p.d x y))) fun z=> .val T.b z:=by
 rintro E rv fp f H R z ⟨⟩
 subst hl
 rcases ha E rv fp f H R with ⟨_,c,e,r⟩|⟨e,_⟩
 ·rcases hb E rv fp f H R with ⟨_,c',e',r'⟩|⟨e',_⟩
  ·exact⟨_,none,by simp only[Bp,e,e',X8,p.h r r',Option.map_some,val],rfl,Gb.2 rfl⟩
  ·rw[ht]at e';cases e'
 ·rw[ht]at e;cases e
theorem h_eqb{x y:Bool}{neg:Bool}(ha:C7 tb Γ a (.val T.b x))(hb:C7 tb Γ b (.val T.b y)):Fw tb Γ (.eq neg (.one .b) a b) (some (if neg then !decide (x=y)else decide (x=y))) fun z=> .val T.b z:=by
 rintro E rv fp f H R z ⟨⟩
 have h:tN .b (.b x) (.b y)=some (decide (x=y)):=by cases x<;>cases y<;>rfl
 exact⟨_,none,by simp only[Bp,Gb.1 (ha E rv fp f H R),Gb.1 (hb E rv fp f H R),X8,h,Option.map_some,val],rfl,Gb.2 rfl⟩
theorem Ii{s t:T}{x:s.α}{y:t.α}{n j o o' m k N:Nat}{ps:List (Nat×AK)}(F:AL s (Ay n t) o')(hk:k=t.sz)(ha:C7 tb Γ a (.cp j (o+m*t.sz)))(hb:C7 tb Γ b (.val t y))(hj:AG Γ.ss j=some (.cells ps))(hp:Jm ps o=some (N, .val s x,o')):
  Wd tb Γ none (.st k a b) (if m<n then some (F.put x ((F.get x).set m y))else none) fun x'=>Γ.setS j (.cells (Vm ps o (.val s x'))):=by
 intro E rv fp f H R x' hx'
 split at hx'
 ·rename_i hlt
  cases hx'
  obtain⟨l,id,e,hv⟩:=ha E rv fp f H R
  obtain⟨cs,h0,h2,h3⟩:=FX R hj e
  obtain⟨b',c,e0,e1,e2,e3,e4,e5,e6⟩:=FA h3 hp
  let G:=J0 F (AL.at n t m hlt)
  have hle:=G.le
  have hl:=s.len e4
  have hy:=T.V.cells (hb E rv fp f H R)
  have hyl:=t.len hy
  have hput:=G.putR e4 hy
  have hpr:=e6 (o'+m*t.sz) (cellsOf (eval tb f b)) (.val s (G.put x y)) (by omega) hput
  rw[show b'+(o'+m*t.sz)=o+m*t.sz by omega]at hpr
  have hmen:=PR.men R.ltP R.rvlt h3
  have hym:=t.men hy R.ltP
  subst hk
  have hlt':=(R.fplt j id l ((h0 id).2 rfl)).1
  obtain⟨rv',fp',_,_,R'⟩:=R.set (j:=j) (S:= .cells (Vm ps o (.val s (G.put x y)))) (v:=rv j) (o:= .cells (Ek H id) (Bw cs (o+m*t.sz) (cellsOf (eval tb f b)))) (by rw[hj];rfl) l h0 (by simp only[Ej];exact NP hmen hym) rfl (R.rvlt j l) (.inl rfl) (R.scal j l) fun rv' fp' e1 e2 hP hs=>
   ⟨id,_,by rw[e1,e],e2,by simp[BX,hlt'],PR.mono hP (by simp) (fun p _=>hs p.2 (.inl rfl)) hpr⟩
  refine⟨.junk,some (H.set id (BF.cells (Ek H id) (Bw cs (o+m*t.sz) (cellsOf (eval tb f b))))),?_,rv',fp',R'⟩
  simp only[Bp,hv,store,h2,Option.bind_some]
  rw[if_pos ⟨hyl,by omega⟩]
  rfl
 ·cases hx'
theorem GR{s t:T}{x:s.α}{n j o o' N m:Nat}{ag:Bool}{ps:List (Nat×AK)}(h:BB Γ.ts n=some (.cp j o))(hj:AG Γ.ss j=some (.cells ps))(hp:Jm ps o=some (N, .val s x,o'))(F:AL s t o')(hag:ag=t.agg)(hm:m=t.sz):ResF Γ (.cell ag m n) t (F.get x):=by
 intro E rv fp f H R r vs hr
 obtain⟨v,u,h1,_,h3⟩:=A3 (tb:=⟨fun _=>none,fun _=>none,fun _=>none⟩) (Ae h) hj hp F hag hm E rv fp f H R () rfl
 refine⟨v,?_,h3⟩
 simp only[Bp,eval,val]at h1
 obtain⟨w,hw,e⟩:=Option.map_eq_some_iff.1 h1
 cases e
 simp only[results,hw,Option.bind_some,hr,Option.map_some]
theorem qW{t:T}{zero:List (List AV)}{d t0 sz n:Nat}{ps:List (Nat×AO)}{l:List t.α}(j:Nat)(hs:sz=t.sz)(hz:zero=List.replicate n t.zc)(h:oN tb Γ t ps (List.replicate n t.z) l)(hj:AG Γ.ss j=none):
  Wd tb Γ (some d) (.bls t0 sz zero ps) (some l) fun l=>⟨(d, .own j)::Γ.ts,(j, .row t (.mk l))::Γ.ss⟩:=by
 intro E rv fp f H R l' hl'
 cases hl'
 subst hz hs
 obtain⟨ds,h1,h2⟩:=h.spec R (CG.rep (t.hz _ _) n)
 have hm:=h2.men R.ltP
 obtain⟨rv',fp',g1,g2,g3⟩:=R.more (j:=j) (S:= .row t (.mk l)) (v:= .orow H.length ds.length 0 ds.length) (o:= .row (some t0) false t.sz ds) (Hy hj) (by simp only[Ej];omega) rfl (by simp[B7]) rfl fun rv' fp' e1 e2 hP hs=>
  ⟨_,ds,e1,e2,by simp[rowAt],h2.mono hP⟩
 exact⟨.orow H.length ds.length 0 ds.length,some (H++[BF.row (some t0) false t.sz ds]),by simp only[Bp,h1,Option.map_some],rv',fp',g3.push (φ:= .own j) ⟨g2,g1.symm⟩⟩
end
def look{α:Type}(n:Nat):List (Nat×α)→Option α
 |[]=>none
 |(k,v)::r=>if Nat.beq n k then some v else look n r
theorem P6{α:Type}{n:Nat}{v:α}: ∀{l:List (Nat×α)},look n l=some v→(n,v)∈l
 |[],h=>by simp[look]at h
 |(k,u)::r,h=>by
  simp only[look]at h
  split at h
  ·rename_i e
   obtain rfl:=Option.some.inj h
   obtain rfl:=Nat.eq_of_beq_eq_true e
   exact List.mem_cons_self
  ·exact List.mem_cons_of_mem _ (P6 h)
theorem oI{tb:CW}{g:Nat}{f:List UInt8→UInt8→Int}(hp:tb.prim g=some (gL f)):Spec tb g [Ax,T.u8] [T.int .i64] fun a=>some (f a.1 a.2):=by
 rintro P h args ⟨x,y⟩ _ _ ⟨v,q,rfl,h1,w,rfl,h2⟩ r hr
 cases hr
 refine⟨_,none,?_,rfl,[.i .i64 (f x y)],rfl,_,rfl,BY.2 rfl⟩
 have hy: ∀z:UInt8,UInt8.ofNat ((z.toNat:Int)).toNat=z:=fun z=>by simp
 rw[E8.1 h1,Uu.1 h2]
 simp only[B1,hp,gL,zQ,PL,Option.bind_some]
 show some (AV.i .i64 (f x (UInt8.ofNat ((UInt8.toNat y:Nat):Int).toNat)),none)=_
 exact congrArg (fun c:UInt8=>(some (AV.i .i64 (f (show AM from x) c),(none:Option Av)))) (hy (show UInt8 from y))
end Go.Proofs.YtobejhpigbllpaaGreatDoor.Am
namespace Go.Proofs.YtobejhpigbllpaaGreatDoor.Am
def isPt:AV→Bool
 | .ptr _ _=>true
 | .pe _ _ _ _=>true
 |_=>false
def RefR(t:T)(P:Nat→Prop)(H:Av)(cs:List AV):Option t.α→Prop
 |none=>cs=[.nilp]
 |some y=> ∃v,cs=[v]∧isPt v=true∧Zh t P H v y
theorem Zh.cut{t:T}{P Q:Nat→Prop}{H:Av}{v:AV}{y:t.α}{n:Nat}(hv:isPt v=true)(h:Zh t P H v y)(hm:B7 v≤n)(hw:CB (H.take n)≤n)(hp: ∀i,P i→i<n→Q i):Zh t Q (H.take n) v y:=by
 obtain⟨h1,cs,off,h2,h3,h4,_⟩:=h
 cases v<;>simp only[isPt,Bool.false_eq_true]at hv
 ·rename_i id o
  simp only[B7]at hm
  simp only[Vn]at h1
  simp only[place]at h2
  obtain⟨c,hc,e⟩:=Option.map_eq_some_iff.1 h2
  cases e
  refine⟨hp _ h1 (by omega),cs,off,by simp only[place];rw[Om (by omega),hc];rfl,h3,t.cut h4 ?_ hw hp,fun m hq=> ?_⟩
  ·have:=SW hw (by omega) hc
   exact Nat.le_trans (Kx _ _) (Nat.le_trans (IJ _ _) this)
  ·simp only[B7];exact hq _ (hp _ h1 (by omega))
 ·rename_i id n' i o
  simp only[B7]at hm
  simp only[Vn]at h1
  simp only[place]at h2
  obtain⟨r,hr,h2⟩:=Option.bind_eq_some_iff.1 h2
  split at h2
  ·rename_i hn
   cases h2
   refine⟨hp _ h1 (by omega),_,_,by simp only[place];rw[Ru (by omega),hr,Option.bind_some,if_pos hn],h3,t.cut h4 ?_ hw hp,fun m hq=> ?_⟩
   ·have:=WE hw (by omega) hr
    have h5: ∀(l:List (List AV)) (i:Nat),CJ (l.drop i)≤CJ l:=by
     intro l
     induction l with
     |nil=>intro i;simp
     |cons x l ih=>
      intro i
      cases i with
      |zero=>exact Nat.le_refl _
      |succ i=>simp only[List.drop_succ_cons,CJ];have:=ih i;omega
    have h6:=h5 r.2.2 n'
    rw[←NQ]at h6
    exact Nat.le_trans (Kx _ _) (Nat.le_trans (IJ _ _) (by omega))
   ·simp only[B7];exact hq _ (hp _ h1 (by omega))
  ·cases h2
def lB(t:T):T where
 α:=Option t.α
 sz:=1
 agg:=false
 dep:=21
 R:=RefR t
 zc:=[.nilp]
 z:=none
 hz:=fun _ _=>rfl
 one:=fun _=>rfl
 len:=fun{_ _ _ x} h=>by
  cases x with
  |none=>rw[show _=[AV.nilp]from h];rfl
  |some y=>obtain⟨v,e,_⟩:=h;rw[e];rfl
 sca:=fun{_ _ _ x} h=>by
  cases x with
  |none=>rw[show _=[AV.nilp]from h];rfl
  |some y=>obtain⟨v,e,hv,_⟩:=h;rw[e];cases v<;>simp only[isPt,Bool.false_eq_true]at hv<;>rfl
 men:=fun{_ _ _ x m} h hp=>by
  cases x with
  |none=>rw[show _=[AV.nilp]from h];simp[Bg,B7]
  |some y=>obtain⟨v,e,_,_,_,_,_,_,_,hm⟩:=h;rw[e];simpa [Bg]using hm m hp
 mono:=fun{_ _ _ _ _ x} m h=>by
  cases x with
  |none=>exact h
  |some y=>obtain⟨v,e,hv,k⟩:=h;exact⟨v,e,hv,k.mono m⟩
 cut:=fun{_ _ _ _ x _} h hm hw hp=>by
  cases x with
  |none=>exact h
  |some y=>obtain⟨v,e,hv,k⟩:=h;exact⟨v,e,hv,k.cut hv (by rw[e]at hm;simpa [Bg]using hm) hw hp⟩
 frz:=fun _ hd h20 _ _=>by omega
section
variable{tb:CW}{Γ:Cx}{a b:AO}
theorem nil_rp{t:T}{x:t.α}{P:Nat→Prop}{H:Av}{v:AV}{cl:Nat→List AV→Av→KB}{rho:AO→AV}(e:rho a=v)(h:Zh t P H v x):Bp tb cl rho H (.nilc a)=some (v,none):=by
 have:=h.1
 cases v<;>simp only[Vn]at this<;>simp only[Bp,e]
theorem h_nilR{t:T}{x:Option t.α}(ha:C7 tb Γ a (.val (lB t) x)):Fw tb Γ (.nilc a) x fun y=> .rp t y:=by
 rintro E rv fp f H R y rfl
 rcases ha E rv fp f H R with ⟨h,_⟩|⟨_,v,e,hv,h⟩
 ·cases h
 ·cases e
  exact⟨_,none,nil_rp rfl h,rfl,h⟩
def T.Flat(t:T):Prop:= ∀{P Q:Nat→Prop} {H G:Av} {cs:List AV} {x:t.α},t.R P H cs x→t.R Q G cs x
theorem flat_b:T.b.Flat:=fun h=>h
theorem jI{k:IntKind}:(T.int k).Flat:=fun h=>h
theorem yX:T.u64.Flat:=fun h=>h
theorem PG:Ax.Flat:=fun h=>h
theorem T.Flat.V{t:T}(h:t.Flat){P Q:Nat→Prop}{H G:Av}{v:AV}{x:t.α}(r:t.V P H v x):t.V Q G v x:=by
 rcases r with ⟨a,cs,e,r⟩|⟨a,r⟩
 ·exact .inl ⟨a,cs,e,h r⟩
 ·exact .inr ⟨a,h r⟩
inductive Tp:List T→Prop where
 |nil:Tp []
 |cons {t:T} {l:List T}:t.Flat→Tp l→Tp (t::l)
theorem UY.flat{P Q:Nat→Prop}{H G:Av}: ∀{l:List T} {vs:List AV} {x:BS l},Tp l→UY P H l vs x→UY Q G l vs x
 |[],_,_,_,h=>h
 |[a],_,_, .cons k _,⟨v,e,h⟩=>⟨v,e,k.V h⟩
 |_::_::_,_,_, .cons k l,⟨v,q,e,h,g⟩=>⟨v,q,e,k.V h,UY.flat l g⟩
def ArgP(tb:CW)(Γ:Cx)(a:AO)(t:T)(x:t.α):Prop:= ∀E rv fp f H,Bo E Γ rv fp f H→t.V (fun i=>i<H.length) H (eval tb f a) x
theorem a_v{t:T}{x:t.α}(h:C7 tb Γ a (.val t x)):ArgP tb Γ a t x:=fun E rv fp f H R=>T.V.mono (fun i hi=>⟨Pf.lt R.le hi,rfl⟩) (h E rv fp f H R)
theorem a_p{t:T}{x:t.α}{j o N:Nat}{ps:List (Nat×AK)}(ha:C7 tb Γ a (.cp j o))(hj:AG Γ.ss j=some (.cells ps))(hp:Jm ps o=some (N, .val t x,0)):ArgP tb Γ a (lB t) (some x):=by
 intro E rv fp f H R
 obtain⟨l,id,e,hv⟩:=ha E rv fp f H R
 obtain⟨cs,h0,h2,h3⟩:=FX R hj e
 obtain⟨b',c,e0,e1,e2,e3,e4,e5,_⟩:=FA h3 hp
 have hlen:=t.len e4
 have hlt:=(R.fplt j id l ((h0 id).2 rfl)).1
 have hs:=e5 0 t.sz (by omega)
 rw[Nat.add_zero]at e1 hs
 subst e1
 have hc:sub c 0 t.sz=c:=by simp only[sub,List.drop_zero];exact List.take_of_length_le (by omega)
 rw[hc]at hs
 refine .inr ⟨rfl,_,rfl,by rw[hv];rfl,?_⟩
 rw[hv]
 refine⟨hlt,cs,o,by simp only[place,h2,Option.map_some],by omega,by rw[hs];exact t.mono (fun i hi=>⟨Pf.lt R.le hi,rfl⟩) e4,fun m hm=> ?_⟩
 simp only[B7]
 exact hm _ hlt
inductive Zi(tb:CW)(Γ:Cx):(As:List T)→List AO→BS As→Prop where
 |one {a:AO} {t:T} {x:t.α} (h:ArgP tb Γ a t x):Zi tb Γ [t] [a] x
 |cons {a:AO} {t u:T} {x:t.α} {As:List T} {l:List AO} {y:BS (u::As)} (h:ArgP tb Γ a t x) (k:Zi tb Γ (u::As) l y):Zi tb Γ (t::u::As) (a::l) (x,y)
theorem Zi.spec{E:Ph}{rv:Nat→AV}{fp:Fp}{f:Fr}{H:Av}(R:Bo E Γ rv fp f H): ∀{As:List T} {l:List AO} {x:BS As},Zi tb Γ As l x→UY (fun i=>i<H.length) H As (l.map (eval tb f)) x
 |_,_,_, .one h=>⟨_,rfl,h E rv fp f H R⟩
 |_,_,_, .cons h k=>⟨_,_,rfl,h E rv fp f H R,k.spec R⟩
theorem pW{g:Nat}{As Rs:List T}{F:BS As→Option (BS Rs)}{l:List AO}{x:BS As}(sp:Spec tb g As Rs F)(fl:Tp Rs)(hx:Zi tb Γ As l x):Fw tb Γ (.call g l) (F x) fun r=>vY Rs r:=by
 intro E rv fp f H R r hr
 obtain⟨v,u,h1,h2,vs,h3,h4⟩:=(sp (fun i=>i<H.length) H _ x (fun _ h=>h) R.wf (hx.spec R) r hr).call
 exact⟨v,u,by simp only[Bp];exact h1,h2,WQ ⟨vs,h3,h4.flat fl⟩⟩
theorem yP{g:Nat}{As:List T}{t:T}{F:BS As→Option (BS [t])}{l:List AO}{x:BS As}(sp:Spec tb g As [t] F)(fl:Tp [t])(hx:Zi tb Γ As l x):Fw tb Γ (.call g l) (F x) fun r:t.α=> .val t r:=pW sp fl hx
end
end Go.Proofs.YtobejhpigbllpaaGreatDoor.Am
namespace Go.Proofs.YtobejhpigbllpaaGreatDoor.Am
def Yh:Dom where
 α:=AM×Nat
 R:=fun F _ H v x=> ∃id,v= .ptr id 0∧(∀i,F i↔i=id)∧H[id]? =some (.iter x.1 x.2)
 lt:=fun⟨id,_,hF,h⟩ i hi=>by rw[(hF i).1 hi];exact(List.getElem?_eq_some_iff.1 h).1
 men:=fun⟨id,e,hF,_⟩ _ hm=>by rw[e];simp only[B7];exact hm id ((hF id).2 rfl)
 mono:=fun _ g ⟨id,e,hF,h⟩=>⟨id,e,hF,by rw[g id ((hF id).2 rfl)];exact h⟩
def EL(s:AM)(pos:Nat):Int×Nat:=((Utf8.decode ⟨s.toArray⟩ pos).1,(Utf8.decode ⟨s.toArray⟩ pos).2)
section
variable{tb:CW}{Γ:Cx}{a b:AO}
theorem xQ{x:UInt8}(h:C7 tb Γ a (.val T.u8 x)):C7 tb Γ a (.val (T.int .u8) (x.toNat:Int)):=fun E rv fp f H R=>BY.2 (Uu.1 (h E rv fp f H R))
theorem o_n16{x:UInt16}(h:C7 tb Γ a (.val T.u16 x)):C7 tb Γ a (.val (T.int .u16) (x.toNat:Int)):=fun E rv fp f H R=>BY.2 (eN.1 (h E rv fp f H R))
theorem Ma{x:UInt32}(h:C7 tb Γ a (.val T.u32 x)):C7 tb Γ a (.val (T.int .u32) (x.toNat:Int)):=fun E rv fp f H R=>BY.2 (eM.1 (h E rv fp f H R))
theorem M_rng{s:AM}{d:Nat}(j:Nat)(hj:AG Γ.ss j=none)(ha:C7 tb Γ a (.val Ax s)):Wd tb Γ (some d) (.rng a) (some ()) fun _=>⟨(d, .own j)::Γ.ts,(j, .dom Yh (s,0))::Γ.ss⟩:=by
 rintro E rv fp f H R _ ⟨⟩
 obtain⟨rv',fp',h1,h2,h3⟩:=R.more (j:=j) (S:= .dom Yh (s,0)) (v:= .ptr H.length 0) (o:= .iter s 0) (Hy hj) (by simp[Ej]) rfl (by simp[B7]) rfl fun rv' fp' e1 e2 hP hs=>
  ⟨_,e1,e2,by simp⟩
 refine⟨.ptr H.length 0,some (H++[BF.iter s 0]),by simp only[Bp,E8.1 (ha E rv fp f H R)],rv',fp',h3.push (d:=d) (φ:= .own j) ⟨h2,h1.symm⟩⟩
variable{ks:List Kf}{ρ:Type}{Q:LT ρ}
def Aa.nxt{s:AM}{pos j d:Nat}{rest:List AT}(ha:C7 tb Γ a (.own j))(hj:AG Γ.ss j=some (.dom Yh (s,pos)))
  (k1:(x:Int×Nat)→Aa tb ⟨(d, .tup [⟨T.b,true⟩,⟨T.int .i64,((pos:Nat):Int)⟩,⟨T.int .i32,x.1⟩])::Γ.ts,(j, .dom Yh (s,pos+x.2))::Γ.ss⟩ (rg false rest) ks Q)
  (k2:Aa tb ⟨(d, .tup [⟨T.b,false⟩])::Γ.ts,Γ.ss⟩ (rg false rest) ks Q):Aa tb Γ (rg false (⟨some d,none, .nxt a⟩::rest)) ks Q:=
 ⟨if pos<s.length then(k1 (EL s pos)).m else k2.m,fun E f H ⟨rv,fp,I⟩ r hr=>by
  have hl:AZ Γ.ss j:=La hj rfl
  obtain⟨_,hv⟩:=ha E rv fp f H I
  obtain⟨id,e,hF,hH⟩:=I.slots j _ hj
  rw[e]at hv
  have hi:Xl H id=some (s,pos):=by simp only[Xl,hH]
  split at hr
  ·rename_i hp
   obtain⟨rv',fp',h1,h2,h3⟩:=I.set (j:=j) (S:= .dom Yh (s,pos+(EL s pos).2)) (v:=rv j) (o:= .iter s (pos+(EL s pos).2)) (by rw[hj];rfl) hl hF (by simp[Ej]) rfl (I.rvlt j hl) (.inl rfl) (I.scal j hl)
    fun rv' fp' e1 e2 hP _=>⟨id,by rw[e1,e],e2,by rw[List.getElem?_set_self (I.fplt j id hl ((hF id).2 rfl)).1]⟩
   have hx:Bp tb (Ch tb) (eval tb f) H (.nxt a)=some (.tup [.b true, .i .i64 pos, .i .i32 (EL s pos).1],some (H.set id (BF.iter s (pos+(EL s pos).2)))):=by
    simp only[Bp,hv,hi,Option.bind_some,if_true,if_pos hp];rfl
   obtain⟨e',f',H',h4,h5⟩:=(k1 (EL s pos)).ok E _ _ ⟨rv',fp',h3.push (d:=d) (φ:= .tup [⟨T.b,true⟩,⟨T.int .i64,((pos:Nat):Int)⟩,⟨T.int .i32,(EL s pos).1⟩])
    ⟨[.b true, .i .i64 pos, .i .i32 (EL s pos).1],rfl,Gb.2 rfl,BY.2 rfl,BY.2 rfl,trivial⟩⟩ r hr
   exact⟨e',f',H',by rw[Kd hx];exact h4,h5⟩
  ·rename_i hp
   have hx:Bp tb (Ch tb) (eval tb f) H (.nxt a)=some (.tup [.b false],none):=by
    simp only[Bp,hv,hi,Option.bind_some,if_true,if_neg hp]
   obtain⟨e',f',H',h4,h5⟩:=k2.ok E _ H ⟨rv,fp,I.push (d:=d) (φ:= .tup [⟨T.b,false⟩]) ⟨[.b false],rfl,Gb.2 rfl,trivial⟩⟩ r hr
   exact⟨e',f',H',by rw[Kd hx];exact h4,h5⟩⟩
def aJ{x y:AC}(h:C7 tb Γ a (.val T.b true))(s:Aa tb Γ x ks Q):Aa tb Γ (.cond a x y) ks Q:=
 ⟨s.m,fun E f H ⟨rv,fp,I⟩ r hr=>by
  have hv:=Gb.1 (h E rv fp f H I)
  obtain⟨e,f',H',h4,h5⟩:=s.ok E f H ⟨rv,fp,I⟩ r hr
  exact⟨e,f',H',by simp only[AW,hv,if_true];exact h4,h5⟩⟩
def aK{x y:AC}(h:C7 tb Γ a (.val T.b false))(s:Aa tb Γ y ks Q):Aa tb Γ (.cond a x y) ks Q:=
 ⟨s.m,fun E f H ⟨rv,fp,I⟩ r hr=>by
  have hv:=Gb.1 (h E rv fp f H I)
  obtain⟨e,f',H',h4,h5⟩:=s.ok E f H ⟨rv,fp,I⟩ r hr
  exact⟨e,f',H',by simp only[AW,hv,Bool.false_eq_true,if_false];exact h4,h5⟩⟩
end
end Go.Proofs.YtobejhpigbllpaaGreatDoor.Am
namespace Go.Proofs.YtobejhpigbllpaaGreatDoor.Am
def Qv:HN→Bool
 | .mv _=>true
 | .pick _ _ _=>true
 | .bld _ _=>true
 | .bll _ _ _=>true
 | .fa _ _=>true
 | .nilc _=>true
 | .bin _ _ _=>true
 | .eq _ _ _ _=>true
 | .un _ _=>true
 | .cvi _ _=>true
 | .cvid _=>true
 | .cvc _=>true
 | .mkf _ _ _=>true
 | .sls _ _ _=>true
 | .fld _ _ _ _=>true
 | .iaa _ _ _ _=>true
 | .ixa _ _ _ _ _=>true
 | .ixs _ _=>true
 | .ext _ _=>true
 | .mkif _ _=>true
 | .len _=>true
 | .lens _=>true
 | .mnx _ _ _=>true
 | .isni _ _=>true
 | .capn _=>true
 |_=>false
structure VN where
 ag:Bool
 n:Nat
 t:Nat
 v:AV
 c:Nat
def PE(d:Option Nat):List VN→Bool
 |[]=>true
 |m::r=>(match d with|some d=> !Nat.beq d m.t|none=>true)&&PE d r
def eA:List VN→List VN
 |[]=>[]
 |m::r=>match m.c with
  |0=>eA r
  |1=>eA r
  |c+2=>{m with c:=c+1}::eA r
def Rx(N k lo hi:Nat)(o:HN):Bool:=(Nat.beq lo k&&Nat.beq hi k)||(Qv o&&Nat.ble hi N)
def oH(N k lo hi:Nat)(o:HN)(v:AV)(ms:List VN):List VN:=
 bif Rx N k lo hi o then ms else match o with
  | .ld ag n (.t t)=>⟨ag,n,t,v,hi-k⟩::ms
  |_=>ms
def pO(N k lo hi:Nat)(d:Option Nat):HN→Bool
 | .ld _ _ (.t t)=>Nat.beq lo k&&Nat.ble hi N&&(match d with|some d=> !Nat.beq d t|none=>true)
 |_=>false
structure uI where
 ag:Bool
 n:Nat
 a:AV
 v:AV
 lo:Nat
def Gq(tb:CW)(cl:Nat→List AV→Av→KB)(N:Nat):Nat→List VN→List uI→List AT→List (Option (Nat×Nat))→Fr→Av→Fr×Av→Prop
 |k,_,_,[],[],f,h,p=>k=N∧p=(f,h)
 |k,ms,es,⟨d,g,o⟩::l,none::w,f,h,p=>(wanted f g=some true∧ ∃q es',Bp tb cl (eval tb f) h o=some q∧PE d ms=true∧
   (∀m∈ms,0<m.c→Bp tb cl (eval tb (put f d q.1)) (q.2.getD h) (.ld m.ag m.n (.t m.t))=some (m.v,none))∧
   (∀e∈es',(e∈es∨e.lo=k)∧load h e.ag e.n e.a=some e.v)∧Gq tb cl N (k+1) (eA ms) es' l w (put f d q.1) (q.2.getD h) p)∨
   (wanted f g=some false∧ms=[]∧Gq tb cl N (k+1) [] [] l w (put f d (.tup [])) h p)
 |k,ms,es,⟨d,g,o⟩::l,some (lo,hi)::w,f,h,p=>(wanted f g=some true∧ ∃q,Bp tb cl (eval tb f) h o=some q∧q.2.getD h=h∧PE d ms=true∧
   (((Rx N k lo hi o||pO N k lo hi d o)=true∧Gq tb cl N k (oH N k lo hi o q.1 ms) es l w (put f d q.1) h p)∨
    (hi=k∧(∃e∈es,∃t,o= .ld e.ag e.n (.t t)∧get f t=e.a∧q.1=e.v∧e.lo≤lo)∧Gq tb cl N k ms es l w (put f d q.1) h p)))∨
   (wanted f g=some false∧PE d ms=true∧Gq tb cl N k ms es l w (put f d (.tup [])) h p)
 |_,_,_,_,_,_,_,_=>False
section
variable{tb:CW}{cl:Nat→List AV→Av→KB}
theorem uA{o:HN}(ho:Qv o=true){rho:AO→AV}{h h':Av}:Bp tb cl rho h o=Bp tb cl rho h' o:=by
 cases o<;>first|(simp only[Qv,Bool.false_eq_true]at ho;done)|rfl
theorem G8{x:Option AV}{p:AV×Option Av}(e:val x=some p):p.2=none:=by
 obtain⟨v,_,rfl⟩:=Option.map_eq_some_iff.1 e;rfl
theorem map_none{α:Type}{x:Option α}{f:α→AV}{p:AV×Option Av}(e:x.map (fun a=>(f a,(none:Option Av)))=some p):p.2=none:=by
 obtain⟨v,_,rfl⟩:=Option.map_eq_some_iff.1 e;rfl
theorem bind_none{α:Type}{x:Option α}{f:α→KB}{p:AV×Option Av}(h: ∀a,f a=some p→p.2=none)(e:x.bind f=some p):p.2=none:=by
 obtain⟨v,_,e⟩:=Option.bind_eq_some_iff.1 e;exact h v e
theorem Aa0{o:HN}(ho:Qv o=true){rho:AO→AV}{h:Av}{p:AV×Option Av}(e:Bp tb cl rho h o=some p):p.2=none:=by
 cases o<;>first|(simp only[Qv,Bool.false_eq_true]at ho;done)|skip
 case mv=>simp only[Bp,Option.some.injEq]at e;subst e;rfl
 case pick=>simp only[Bp]at e;split at e<;>first|(cases e;rfl)|cases e
 case bld=>exact G8 e
 case bll=>exact G8 e
 case nilc=>simp only[Bp]at e;split at e<;>first|(cases e;rfl)|cases e
 case bin=>exact G8 e
 case eq=>exact G8 e
 case un=>exact G8 e
 case cvi=>simp only[Bp]at e;split at e<;>first|(cases e;rfl)|cases e
 case cvid=>simp only[Bp]at e;split at e<;>first|(cases e;rfl)|cases e
 case cvc=>simp only[Bp]at e;split at e<;>first|(cases e;rfl)|cases e
 case mkf=>simp only[Bp,Option.some.injEq]at e;subst e;rfl
 case sls=>simp only[Bp]at e;split at e<;>first|exact map_none e|cases e
 case fa=>exact G8 e
 case fld=>simp only[Bp]at e;split at e<;>first|cases e|(split at e<;>first|exact G8 e|cases e)
 case iaa=>exact bind_none (fun a e=>by split at e<;>first|exact G8 e|cases e) e
 case ixa=>exact bind_none (fun a e=>by split at e<;>first|cases e|(split at e<;>first|exact G8 e|cases e)) e
 case ixs=>exact bind_none (fun a e=>by split at e<;>first|cases e|(split at e<;>first|exact map_none e|cases e)) e
 case ext=>simp only[Bp]at e;split at e<;>first|exact G8 e|cases e
 case mkif=>simp only[Bp,Option.some.injEq]at e;subst e;rfl
 case len=>exact map_none e
 case lens=>simp only[Bp]at e;split at e<;>first|(cases e;rfl)|cases e
 case isni=>simp only[Bp]at e;split at e<;>first|(cases e;rfl)|cases e
 case capn=>simp only[Bp]at e;split at e<;>first|(cases e;rfl)|cases e
 case mnx=>simp only[Bp]at e;split at e<;>first|cases e|(split at e<;>first|(cases e;rfl)|cases e)
theorem oD{o:HN}(ho:Qv o=true){rho:AO→AV}{h h':Av}{p:AV×Option Av}(e:Bp tb cl rho h o=some p):Bp tb cl rho h' o=some (p.1,none):=by
 rw[uA ho (h':=h),e]
 have:=Aa0 ho e
 obtain⟨a,b⟩:=p
 simp only at this
 rw[this]
theorem K5{d:Option Nat}{f:Fr}{v:AV}: ∀{ms:List VN},PE d ms=true→ ∀m∈ms,eval tb (put f d v) (.t m.t)=eval tb f (.t m.t)
 |[],_,m,hm=>by cases hm
 |q::r,h,m,hm=>by
  simp only[PE,Bool.and_eq_true]at h
  rcases List.mem_cons.1 hm with rfl|hm
  ·cases d with
   |none=>rfl
   |some d=>
    have:=h.1
    simp only[Bool.not_eq_true']at this
    simp only[eval,put,get]
    rw[if_neg fun e=>by rw[e,Nat.beq_refl]at this;cases this]
  ·exact K5 h.2 m hm
theorem S3{f g:Fr}{h:Av}{ag:Bool}{n t:Nat}(e:eval tb f (.t t)=eval tb g (.t t)):Bp tb cl (eval tb f) h (.ld ag n (.t t))=Bp tb cl (eval tb g) h (.ld ag n (.t t)):=by
 simp only[Bp,e]
def AaC(tb:CW)(cl:Nat→List AV→Av→KB)(f:Fr)(tl:List Av)(m:VN):Prop:= ∀i h',i<m.c→tl[i]? =some h'→Bp tb cl (eval tb f) h' (.ld m.ag m.n (.t m.t))=some (m.v,none)
theorem kS: ∀{ms:List VN} {m:VN},m∈ms→1<m.c→{m with c:=m.c-1}∈eA ms
 |q::r,m,hm,hc=>by
  rcases List.mem_cons.1 hm with rfl|hm
  ·obtain⟨ag,n,t,v,c⟩:=m
   match c,hc with
   |c+2,_=>simp[eA]
  ·have:=kS hm hc
   simp only[eA]
   split
   ·exact this
   ·exact this
   ·exact List.mem_cons_of_mem _ this
theorem Aa4{N k lo hi:Nat}{o:HN}{v:AV}{ms:List VN}{m:VN}(h:m∈ms):m∈oH N k lo hi o v ms:=by
 simp only[oH]
 cases Rx N k lo hi o with
 |true=>exact h
 |false=>simp only[cond_false];split<;>simp[h]
theorem mK{N k lo hi:Nat}{d:Option Nat}{o:HN}(h:pO N k lo hi d o=true): ∃ag n t,o= .ld ag n (.t t)∧lo=k∧hi≤N∧d≠some t:=by
 match o,h with
 | .ld ag n (.t t),h=>
  simp only[pO,Bool.and_eq_true]at h
  refine⟨ag,n,t,rfl,Nat.eq_of_beq_eq_true h.1.1,Nat.le_of_ble_eq_true h.1.2,?_⟩
  rintro rfl
  have:=h.2
  simp only[Nat.beq_refl,Bool.not_true,Bool.false_eq_true]at this
open Classical in
theorem Lx{N:Nat}: ∀{l:List AT} {k:Nat} {ms:List VN} {es:List uI} {w:List (Option (Nat×Nat))} {f:Fr} {h:Av} {f':Fr} {h':Av},Gq tb cl N k ms es l w f h (f',h')→
  ∃tl,HP tb cl l w f h=some (h::tl)∧(h::tl).getLast?=some h'∧k+tl.length=N∧(∀m∈ms,AaC tb cl f tl m)∧ ∀(pre:List Av),pre.length=k→(∀e∈es,∀j g,e.lo≤j→pre[j]? =some g→load g e.ag e.n e.a=some e.v)→J4 tb cl (pre++h::tl) l w k f=some f'
 |[],k,ms,es,w,f,h,f',h',e=>by
  cases w with
  |nil=>
   simp only[Gq,Prod.mk.injEq]at e
   obtain⟨hk,rfl,rfl⟩:=e
   exact⟨[],by simp[HP],rfl,by simpa using hk,fun m _ i h' _ hi=>by simp at hi,fun pre hp _=>by simp[J4,hp]⟩
  |cons=>simp[Gq]at e
 |⟨d,g,o⟩::l,k,ms,es,[],f,h,f',h',e=>by simp[Gq]at e
 |⟨d,gd,o⟩::l,k,ms,es,none::w,f,h,f',h',e=>by
  simp only[Gq]at e
  rcases e with ⟨hwt,p,es',hp,hc1,hc2,hc3,e⟩|⟨hwt,rfl,e⟩
  rotate_left
  ·obtain⟨tl,h1,h2,h3,h4,h5⟩:=Lx e
   refine⟨h::tl,?_,?_,by simp;omega,(fun m hm=>absurd hm (by simp)),fun pre hpre hes=> ?_⟩
   ·simp[HP,hwt,h1]
   ·simpa using h2
   ·have h6:=h5 (pre++[h]) (by simp[hpre]) (fun x hx=>absurd hx (by simp))
    simp only[List.append_assoc,List.singleton_append]at h6
    have g0:(pre++h::h::tl)[k]? =some h:=by rw[←hpre,List.getElem?_append_right (Nat.le_refl _),Nat.sub_self];rfl
    have g1:(pre++h::h::tl)[k+1]? =some h:=by rw[←hpre,List.getElem?_append_right (by omega),Nat.add_sub_cancel_left];rfl
    simp only[J4,hwt,Option.bind_some,Bool.false_eq_true,if_false,g0,g1,if_true]
    exact h6
  obtain⟨tl,h1,h2,h3,h4,h5⟩:=Lx e
  refine⟨p.2.getD h::tl,?_,?_,by simp;omega,?_,fun pre hpre hes=> ?_⟩
  ·simp[HP,hwt,hp,h1]
  ·simpa using h2
  ·intro m hm i h' hi hg
   have he:=K5 (tb:=tb) (f:=f) (v:=p.1) hc1 m hm
   rw[S3 he.symm]
   cases i with
   |zero=>
    simp only[List.getElem?_cons_zero,Option.some.injEq]at hg
    subst hg
    exact hc2 m hm (by omega)
   |succ i=>
    simp only[List.getElem?_cons_succ]at hg
    exact h4 _ (kS hm (by omega)) i h' (by simp only;omega) hg
  ·have h6:=h5 (pre++[h]) (by simp[hpre]) (fun x hx j g hj hg=>by
    rcases Nat.lt_or_ge j pre.length with hlt|hge
    ·rw[List.getElem?_append_left hlt]at hg
     rcases(hc3 x hx).1 with hx'|hx'
     ·exact hes x hx' j g hj hg
     ·omega
    ·rw[List.getElem?_append_right hge]at hg
     have:j-pre.length=0:=by
      rcases Nat.eq_zero_or_pos (j-pre.length)with h|h
      ·exact h
      ·rw[List.getElem?_eq_none (by simp;omega)]at hg;cases hg
     rw[this]at hg
     simp only[List.getElem?_cons_zero,Option.some.injEq]at hg
     subst hg
     exact(hc3 x hx).2)
   simp only[List.append_assoc,List.singleton_append]at h6
   have g0:(pre++h::p.2.getD h::tl)[k]? =some h:=by rw[←hpre,List.getElem?_append_right (Nat.le_refl _),Nat.sub_self];rfl
   have g1:(pre++h::p.2.getD h::tl)[k+1]? =some (p.2.getD h):=by rw[←hpre,List.getElem?_append_right (by omega),Nat.add_sub_cancel_left];rfl
   simp only[J4,hwt,Option.bind_some,if_true,g0,hp,g1]
   exact h6
 |⟨d,gd,o⟩::l,k,ms,es,some (lo,hi)::w,f,h,f',h',e=>by
  simp only[Gq]at e
  rcases e with ⟨hwt,p,hp,hu,hfr,e⟩|⟨hwt,hfr,e⟩
  rotate_left
  ·obtain⟨tl,h1,h2,h3,h4,h5⟩:=Lx e
   refine⟨tl,?_,h2,h3,fun m hm i h' hi hg=> ?_,fun pre hpre hes=> ?_⟩
   ·simp[HP,hwt,h1]
   ·have he:=K5 (tb:=tb) (f:=f) (v:= .tup []) hfr m hm
    rw[S3 he.symm]
    exact h4 m hm i h' hi hg
   ·have h6:=h5 pre hpre hes
    simp only[J4,hwt,Option.bind_some,Bool.false_eq_true,if_false]
    exact h6
  rcases e with ⟨hpl,e⟩|⟨hhi0,⟨x,hx,t0,hxo,hxa,hxv,hxl⟩,e⟩
  ·obtain⟨tl,h1,h2,h3,h4,h5⟩:=Lx e
   have hms: ∀m∈ms,AaC tb cl f tl m:=fun m hm i h' hi hg=>by
    have he:=K5 (tb:=tb) (f:=f) (v:=p.1) hfr m hm
    rw[S3 he.symm]
    exact h4 m (Aa4 hm) i h' hi hg
   refine⟨tl,?_,h2,h3,hms,fun pre hpre hes=> ?_⟩
   ·simp[HP,hwt,hp,hu,h1]
   ·have h6:=h5 pre hpre hes
    have g0:(pre++h::tl)[k]? =some h:=by rw[←hpre,List.getElem?_append_right (Nat.le_refl _),Nat.sub_self];rfl
    have hlen:(pre++h::tl).length=N+1:=by simp[hpre];omega
    have hk: ∀j,lo≤j→j<lo+(hi+1-lo)→ ∃u,((pre++h::tl)[j]?).bind (fun h=>Bp tb cl (eval tb f) h o)=some (p.1,u)∧some (u.getD ((pre++h::tl)[j]?.getD []))=(pre++h::tl)[j]? :=by
     intro j hj1 hj2
     simp only[Bool.or_eq_true]at hpl
     cases hP:Rx N k lo hi o with
     |true=>
      have hP':=hP
      simp only[Rx,Bool.or_eq_true,Bool.and_eq_true]at hP'
      rcases hP' with ⟨hlo,hhi⟩|⟨hb,hle⟩
      ·have hlo:=Nat.eq_of_beq_eq_true hlo
       have hhi:=Nat.eq_of_beq_eq_true hhi
       obtain rfl:j=k:=by omega
       exact⟨p.2,by rw[g0,Option.bind_some,hp],by rw[g0];simp[hu]⟩
      ·have hle:=Nat.le_of_ble_eq_true hle
       have hj:j<(pre++h::tl).length:=by omega
       rw[List.getElem?_eq_getElem hj]
       exact⟨none,by rw[Option.bind_some];exact oD hb hp,rfl⟩
     |false=>
      have hL:pO N k lo hi d o=true:=hpl.resolve_left (by rw[hP];simp)
      obtain⟨ag,n,t,rfl,hlo,hhi,hd⟩:=mK hL
      have hp2:p.2=none:=G8 hp
      rcases Nat.lt_or_ge k j with hkj|hkj
      ·have hm:(⟨ag,n,t,p.1,hi-k⟩:VN)∈oH N k lo hi (.ld ag n (.t t)) p.1 ms:=by
        simp only[oH,hP,cond_false];simp
       have hj:j<(pre++h::tl).length:=by omega
       have hjt:(pre++h::tl)[j]? =tl[j-k-1]? :=by
        rw[List.getElem?_append_right (by omega),hpre,show j-k=(j-k-1)+1 by omega,List.getElem?_cons_succ];rfl
       have hjl:j-k-1<tl.length:=by simp[hpre]at hlen;omega
       rw[hjt,List.getElem?_eq_getElem hjl]
       have:=h4 _ hm (j-k-1) _ (by simp only;omega) (List.getElem?_eq_getElem hjl)
       have he:eval tb (put f d p.1) (.t t)=eval tb f (.t t):=by
        cases d with
        |none=>rfl
        |some d=>
         simp only[eval,put,get]
         rw[if_neg fun e=>hd (by rw[e])]
       rw[S3 he]at this
       exact⟨none,by rw[Option.bind_some];exact this,rfl⟩
      ·obtain rfl:j=k:=by omega
       exact⟨p.2,by rw[g0,Option.bind_some,hp],by rw[g0];simp[hu]⟩
    simp only[J4,hwt,Option.bind_some,if_true,g0,hp]
    rw[if_pos (by
     rw[List.all_eq_true]
     intro j hj
     rw[List.mem_range'_1]at hj
     exact decide_eq_true (hk j hj.1 hj.2))]
    exact h6
  ·obtain⟨tl,h1,h2,h3,h4,h5⟩:=Lx e
   have hms: ∀m∈ms,AaC tb cl f tl m:=fun m hm i h' hi hg=>by
    have he:=K5 (tb:=tb) (f:=f) (v:=p.1) hfr m hm
    rw[S3 he.symm]
    exact h4 m hm i h' hi hg
   refine⟨tl,?_,h2,h3,hms,fun pre hpre hes=> ?_⟩
   ·simp[HP,hwt,hp,hu,h1]
   ·have h6:=h5 pre hpre hes
    have g0:(pre++h::tl)[k]? =some h:=by rw[←hpre,List.getElem?_append_right (Nat.le_refl _),Nat.sub_self];rfl
    have hk: ∀j,lo≤j→j<lo+(hi+1-lo)→ ∃u,((pre++h::tl)[j]?).bind (fun h=>Bp tb cl (eval tb f) h o)=some (p.1,u)∧some (u.getD ((pre++h::tl)[j]?.getD []))=(pre++h::tl)[j]? :=by
     intro j hj1 hj2
     rcases Nat.lt_or_ge j k with hjk|hjk
     ·have hjp:j<pre.length:=by omega
      rw[List.getElem?_append_left hjp,List.getElem?_eq_getElem hjp]
      have:=hes x hx j pre[j] (by omega) (List.getElem?_eq_getElem hjp)
      refine⟨none,?_,rfl⟩
      rw[Option.bind_some,hxo,hxv]
      simp only[Bp,eval,hxa,this,val,Option.map_some]
     ·obtain rfl:j=k:=by omega
      exact⟨p.2,by rw[g0,Option.bind_some,hp],by rw[g0];simp[hu]⟩
    simp only[J4,hwt,Option.bind_some,if_true,g0,hp]
    rw[if_pos (by
     rw[List.all_eq_true]
     intro j hj
     rw[List.mem_range'_1]at hj
     exact decide_eq_true (hk j hj.1 hj.2))]
    exact h6
theorem ZR{l:List AT}{w:List (Option (Nat×Nat))}{f:Fr}{h:Av}{n:Nat}{p:Fr×Av}(e:Gq tb cl n 0 [] [] l w f h p):
  AW tb cl (.regd l w) f h=some (.normal,p.1,p.2):=by
 obtain⟨tl,h1,h2,h3,h4,h5⟩:=Lx (f':=p.1) (h':=p.2) e
 have h6:=h5 [] rfl (fun e he=>by cases he)
 simp only[List.nil_append]at h6
 simp only[AW,h1,Option.bind_some,List.tail_cons,h6,h2,Option.map_some]
end
structure Ob where
 ag:Bool
 n:Nat
 t:Nat
 d:Nat
 φ:AK
 c:Nat
def eB:List Ob→List Ob
 |[]=>[]
 |m::r=>match m.c with
  |0=>eB r
  |1=>eB r
  |c+2=>{m with c:=c+1}::eB r
def Of(d:Option Nat):List Ob→Bool
 |[]=>true
 |m::r=>(match d with|some d=> !Nat.beq d m.t&& !Nat.beq d m.d|none=>true)&&Of d r
def T.Uni(t:T):Prop:= ∀{P Q:Nat→Prop} {H G:Av} {cs ds:List AV} {x:t.α},t.R P H cs x→t.R Q G ds x→cs=ds
theorem Yb{α:Type}{c:α→AV}{z:α}{hs hm}:(Tm α c z hs hm).Uni:=fun h g=>h.trans g.symm
theorem Cv{k:IntKind}:(T.int k).Uni:=Yb
theorem Iz:T.u8.Uni:=Yb
theorem RK:T.u64.Uni:=Yb
theorem AU{a b:T}(h:a.Uni)(g:b.Uni):(CE a b).Uni:=by
 rintro P Q H G cs ds x ⟨c,d,e,h1,h2⟩ ⟨c',d',e',h1',h2'⟩
 rw[e,e',h h1 h1',g h2 h2']
theorem BU{t:T}{β:Type}{f:β→t.α}{g:t.α→β}{hfg: ∀y,f (g y)=y}(h:t.Uni):(OW t β f g hfg).Uni:=fun r r'=>h r r'
theorem CG.uni{t:T}(h:t.Uni){P Q:Nat→Prop}{H G:Av}: ∀{c d:List (List AV)} {x:List t.α},CG t P H c x→CG t Q G d x→c=d
 |[],[],[],_,_=>rfl
 |_::_,_::_,_::_,h1,h2=>by rw[h h1.1 h2.1,CG.uni h h1.2 h2.2]
 |[],_::_,[],_,h2=>h2.elim
 |_::_,_,[],h1,_=>h1.elim
 |[],_,_::_,h1,_=>h1.elim
 |_::_,[],_::_,_,h2=>h2.elim
theorem DV{n:Nat}{t:T}(h:t.Uni):(Ay n t).Uni:=by
 rintro P Q H G cs ds x ⟨c,e,h1⟩ ⟨c',e',h1'⟩
 rw[e,e',h1.uni h h1']
theorem T.Uni.V{t:T}(h:t.Uni){P Q:Nat→Prop}{H G:Av}{v w:AV}{x:t.α}(r:t.V P H v x)(r':t.V Q G w x):v=w:=by
 rcases r with ⟨ha,cs,rfl,r⟩|⟨ha,r⟩
 ·rcases r' with ⟨_,ds,rfl,r'⟩|⟨hb,_⟩
  ·rw[h r r']
  ·rw[ha]at hb;cases hb
 ·rcases r' with ⟨hb,_⟩|⟨_,r'⟩
  ·rw[ha]at hb;cases hb
  ·have:=h r r'
   simpa using this
def AK.Uni:AK→Prop
 | .val t _=>t.Uni
 | .own _=>True
 | .cp _ _=>True
 | .ep _ _ _=>True
 | .oc _ _ _ _=>True
 | .con _=>True
 | .kv _=>True
 | .fnv _ _ _=>True
 |_=>False
theorem AK.Uni.eq{φ:AK}(h:φ.Uni){rv:Nat→AV}{ss:Ss}{P Q:Nat→Prop}{H G:Av}{v w:AV}(r:FR rv ss P H φ v)(r':FR rv ss Q G φ w):v=w:=by
 cases φ<;>simp only[AK.Uni]at h
 case val t x=>exact T.Uni.V h r r'
 case own j=>exact r.2.trans r'.2.symm
 case cp j o=>
  obtain⟨_,id,e,rfl⟩:=r
  obtain⟨_,id',e',rfl⟩:=r'
  rw[e]at e';cases e';rfl
 case ep j i o=>
  obtain⟨_,id,n,e,_,rfl⟩:=r
  obtain⟨_,id',n',e',_,rfl⟩:=r'
  rw[e]at e';cases e';rfl
 case oc j o s n=>
  obtain⟨_,id,e,rfl⟩:=r
  obtain⟨_,id',e',rfl⟩:=r'
  rw[e]at e';cases e';rfl
 case con c=>exact r.1.trans r'.1.symm
 case kv j=>exact r.2.trans r'.2.symm
 case fnv f js ks=>exact r.2.trans r'.2.symm
inductive VM(tb:CW)(Γ:Cx):List Ob→Prop where
 |nil:VM tb Γ []
 |cons {ag:Bool} {n t d c:Nat} {φ:AK} {l:List Ob} (h:Fw tb Γ (.ld ag n (.t t)) (some ()) fun _=>φ) (hd:C7 tb Γ (.t d) φ) (hu:φ.Uni) (r:VM tb Γ l):VM tb Γ (⟨ag,n,t,d,φ,c⟩::l)
inductive lG(f:Fr):List Ob→List VN→Prop where
 |nil:lG f [] []
 |cons {ag:Bool} {n t d c:Nat} {φ:AK} {v:AV} {l:List Ob} {ms:List VN} (h:get f d=v) (r:lG f l ms):lG f (⟨ag,n,t,d,φ,c⟩::l) (⟨ag,n,t,v,c⟩::ms)
theorem lG.dec{f:Fr}: ∀{l:List Ob} {ms:List VN},lG f l ms→lG f (eB l) (eA ms)
 |_,_, .nil=> .nil
 |_,_, .cons (c:=c) h r=>by
  match c with
  |0=>exact r.dec
  |1=>exact r.dec
  |c+2=>exact .cons h r.dec
theorem lG.fresh{d:Option Nat}{f:Fr}: ∀{l:List Ob} {ms:List VN},lG f l ms→Of d l=true→PE d ms=true
 |_,_, .nil,_=>rfl
 |_,_, .cons h r,e=>by
  simp only[Of,Bool.and_eq_true]at e
  simp only[PE,Bool.and_eq_true]
  refine⟨?_,r.fresh e.2⟩
  cases d with
  |none=>rfl
  |some d=>have:=e.1;simp only[Bool.and_eq_true]at this;exact this.1
theorem lG.put{d:Option Nat}{f:Fr}{w:AV}: ∀{l:List Ob} {ms:List VN},lG f l ms→Of d l=true→lG (put f d w) l ms
 |_,_, .nil,_=> .nil
 |_,_, .cons h r,e=>by
  simp only[Of,Bool.and_eq_true]at e
  refine .cons ?_ (r.put e.2)
  cases d with
  |none=>exact h
  |some d=>
   have:=e.1
   simp only[Bool.and_eq_true,Bool.not_eq_true']at this
   simp only[Am.put,get]
   rw[if_neg fun e=>by rw[e,Nat.beq_refl]at this;cases this.2]
   exact h
theorem VM.spec{tb:CW}{Γ:Cx}{E:Ph}{rv:Nat→AV}{fp:Fp}{f:Fr}{H:Av}(I:Bo E Γ rv fp f H): ∀{l:List Ob} {ms:List VN},VM tb Γ l→lG f l ms→ ∀m∈ms,0<m.c→Bp tb (Ch tb) (eval tb f) H (.ld m.ag m.n (.t m.t))=some (m.v,none)
 |_,_, .nil, .nil,m,hm,_=>by cases hm
 |_,_, .cons h hd hu r, .cons h' r',m,hm,hc=>by
  rcases List.mem_cons.1 hm with rfl|hm
  ·obtain⟨v,u,h1,h2,h3⟩:=h E rv fp f H I () rfl
   have:=hu.eq h3 (hd E rv fp f H I)
   subst this
   rw[h1]
   have:u=none:=G8 (p:=(_,u)) h1
   rw[this,←h'];rfl
  ·exact VM.spec I r r' m hm hc
structure Cb where
 ag:Bool
 n:Nat
 t:Nat
 off:Nat
 lo:Nat
 u:T
 x:u.α
def R8(d:Option Nat):List Cb→Bool
 |[]=>true
 |m::r=>(match d with|some d=> !Nat.beq d m.t|none=>true)&&R8 d r
inductive CR(f:Fr):List Cb→List uI→Prop where
 |nil:CR f [] []
 |cons {ag:Bool} {n t off lo id o:Nat} {u:T} {x:u.α} {v a:AV} {l:List Cb} {es:List uI} {P:Nat→Prop} {H:Av} (h0:get f t= .ptr id o) (ha:a= .ptr id (o+off)) (h:u.V P H v x) (r:CR f l es):
   CR f (⟨ag,n,t,off,lo,u,x⟩::l) (⟨ag,n,a,v,lo⟩::es)
theorem CR.put{d:Option Nat}{f:Fr}{w:AV}: ∀{l:List Cb} {es:List uI},CR f l es→R8 d l=true→CR (put f d w) l es
 |_,_, .nil,_=> .nil
 |_,_, .cons h0 ha h r,e=>by
  simp only[R8,Bool.and_eq_true]at e
  refine .cons ?_ ha h (r.put e.2)
  cases d with
  |none=>exact h0
  |some d=>
   have:=e.1
   simp only[Bool.not_eq_true']at this
   simp only[Am.put,get]
   rw[if_neg fun e=>by rw[e,Nat.beq_refl]at this;cases this]
   exact h0
theorem CR.find{f:Fr}: ∀{l:List Cb} {es:List uI} {i:Nat} {c:Cb},CR f l es→l[i]? =some c→ ∃e∈es,e.ag=c.ag∧e.n=c.n∧e.lo=c.lo∧(∃id o,get f c.t= .ptr id o∧e.a= .ptr id (o+c.off))∧ ∃P H,c.u.V P H e.v c.x
 |_,_,i,c, .nil,h=>by simp at h
 |_,_,0,c, .cons h0 ha h r,hc=>by
  simp only[List.getElem?_cons_zero,Option.some.injEq]at hc
  subst hc
  exact⟨_,List.mem_cons_self,rfl,rfl,rfl,⟨_,_,h0,ha⟩,_,_,h⟩
 |_,_,i+1,c, .cons h0 ha h r,hc=>by
  simp only[List.getElem?_cons_succ]at hc
  obtain⟨e,he,g⟩:=r.find hc
  exact⟨e,List.mem_cons_of_mem _ he,g⟩
def VO(Γ:Cx)(c:Cb):Prop:= ∃j o ps N s y o',BB Γ.ts c.t=some (.cp j o)∧AG Γ.ss j=some (.cells ps)∧Jm ps (o+c.off)=some (N, .val s y,o')∧ ∃F:AL s c.u o',F.get y=c.x∧c.ag=c.u.agg∧c.n=c.u.sz
theorem N6{Γ:Cx}{ag:Bool}{n t off lo j o N o':Nat}{ps:List (Nat×AK)}{s u:T}{y:s.α}(F:AL s u o')(h1:BB Γ.ts t=some (.cp j o))(h2:AG Γ.ss j=some (.cells ps))(h3:Jm ps (o+off)=some (N, .val s y,o'))(h4:ag=u.agg)(h5:n=u.sz):VO Γ ⟨ag,n,t,off,lo,u,F.get y⟩:=
 ⟨j,o,ps,N,s,y,o',h1,h2,h3,F,rfl,h4,h5⟩
theorem VO.spec{Γ:Cx}{c:Cb}{E:Ph}{rv:Nat→AV}{fp:Fp}{f:Fr}{H:Av}(h:VO Γ c)(R:Bo E Γ rv fp f H): ∃id o v,get f c.t= .ptr id o∧load H c.ag c.n (.ptr id (o+c.off))=some v∧c.u.V (Pf E Γ.ss fp H) H v c.x:=by
 obtain⟨j,o,ps,N,s,y,o',h1,hj,hp,F,hx,hag,hn⟩:=h
 obtain⟨l,id,e,hv⟩:=R.temps _ _ h1
 obtain⟨cs,h0,h2,h3⟩:=FX R hj e
 obtain⟨b',c',e0,e1,e2,e3,e4,e5,_⟩:=FA h3 hp
 have hle:=F.le
 have hl:=s.len e4
 have hr:=F.getR e4
 rw[←e5 o' c.u.sz (by omega),←e1]at hr
 obtain⟨v,g1,g2⟩:=T.V.of hr
 refine⟨id,o,v,hv,?_,by rw[←hx];exact g2⟩
 rw[hag,hn]
 simp only[Am.load,place,h2,Option.map_some,Option.bind_some,if_pos (show o+c.off+c.u.sz≤cs.length by omega),g1]
inductive JX(Γ:Cx)(k:Nat)(C:List Cb):List Cb→Prop where
 |nil:JX Γ k C []
 |new {c:Cb} {l:List Cb} (hk:c.lo=k) (h:VO Γ c) (r:JX Γ k C l):JX Γ k C (c::l)
 |old {c:Cb} {l:List Cb} (i:Nat) (hi:C[i]? =some c) (hu:c.u.Uni) (h:VO Γ c) (r:JX Γ k C l):JX Γ k C (c::l)
theorem JX.spec{Γ:Cx}{k:Nat}{C:List Cb}{es:List uI}{E:Ph}{rv:Nat→AV}{fp:Fp}{f:Fr}{H:Av}(R:Bo E Γ rv fp f H)(hC:CR f C es): ∀{l:List Cb},JX Γ k C l→ ∃es',CR f l es'∧ ∀e∈es',(e∈es∨e.lo=k)∧load H e.ag e.n e.a=some e.v
 |_, .nil=>⟨[], .nil,fun _ h=>by cases h⟩
 |_, .new (c:=c) hk h r=>by
  obtain⟨es',h1,h2⟩:=r.spec R hC
  obtain⟨id,o,v,g1,g2,g3⟩:=h.spec R
  refine⟨⟨c.ag,c.n, .ptr id (o+c.off),v,c.lo⟩::es', .cons g1 rfl g3 h1,fun e he=> ?_⟩
  rcases List.mem_cons.1 he with rfl|he
  ·exact⟨.inr hk,g2⟩
  ·exact h2 e he
 |_, .old (c:=c) i hi hu h r=>by
  obtain⟨es',h1,h2⟩:=r.spec R hC
  obtain⟨id,o,v,g1,g2,g3⟩:=h.spec R
  obtain⟨e,he,e1,e2,e3,⟨id',o',e4,e5⟩,P,H',e6⟩:=hC.find hi
  have hv:v=e.v:=hu.V g3 e6
  rw[g1]at e4
  cases e4
  refine⟨⟨c.ag,c.n, .ptr id (o+c.off),v,c.lo⟩::es', .cons g1 rfl g3 h1,fun x hx=> ?_⟩
  rcases List.mem_cons.1 hx with rfl|hx
  ·refine⟨.inl ?_,g2⟩
   obtain⟨ag,n,a,v',lo⟩:=e
   simp only at e1 e2 e3 e5 hv
   subst e1 e2 e3 e5 hv
   exact he
  ·exact h2 x hx
structure A9(tb:CW)(Γ:Cx)(N k:Nat)(B:List Ob)(C:List Cb)(l:List AT)(w:List (Option (Nat×Nat)))(ks:List Kf){ρ:Type}(Q:LT ρ) where
 m:Option ρ
 ok: ∀E f H,Rel E Γ f H→ ∀ms,lG f B ms→ ∀es,CR f C es→ ∀r,m=some r→ ∃p e f' H',Gq tb (Ch tb) N k ms es l w f H p∧I4 tb ks (.normal,p.1,p.2)=some (e,f',H')∧Q E r e f' H'
section
variable{tb:CW}{Γ:Cx}{ks:List Kf}{ρ:Type}{Q:LT ρ}{w:List (Option (Nat×Nat))}{N k:Nat}{B:List Ob}{C C':List Cb}
def Aa.regd{l:List AT}(n:Nat)(s:A9 tb Γ n 0 [] [] l w ks Q):Aa tb Γ (.regd l w) ks Q:=
 ⟨s.m,fun E f H R r hr=>by
  obtain⟨p,e,f',H',h1,h2,h3⟩:=s.ok E f H R [] .nil [] .nil r hr
  exact⟨e,f',H',by rw[ZR h1];exact h2,h3⟩⟩
def CA(s:Aa tb Γ (rg false []) ks Q):A9 tb Γ N N B C [] [] ks Q:=
 ⟨s.m,fun E f H R ms _ es _ r hr=>by
  obtain⟨e,f',H',h1,h2⟩:=s.ok E f H R r hr
  rw[Dv]at h1
  exact⟨(f,H),e,f',H',⟨rfl,rfl⟩,h1,h2⟩⟩
def A9.turn{l:List AT}{Γ':Cx}(h: ∀E f H,Rel E Γ f H→Rel E Γ' f H)(s:A9 tb Γ' N k B C l w ks Q):A9 tb Γ N k B C l w ks Q:=
 ⟨s.m,fun E f H R ms hms es hes r hr=>s.ok E f H (h E f H R) ms hms es hes r hr⟩
def A9.frzRow{l:List AT}(j:Nat){t:T}{g:GS t.α}(h:AG Γ.ss j=some (.row t g))(hn:Nat.blt j cG=true)(s:A9 tb (Γ.turn j (vI t g)) N k B C l w ks Q):A9 tb Γ N k B C l w ks Q:=
 s.turn fun _ _ _ ⟨rv,fp,I⟩=>⟨rv,fp,I.frzRow h hn⟩
variable{o:HN}{l:List AT}{y:Nat×Nat}
def YY(N k:Nat)(B:List Ob)(C:List Cb)(y:Nat×Nat)(d:Option Nat)(o:HN):Bool:=Rx N k y.1 y.2 o&&(Of d B&&R8 d C)
theorem uR{cl:Nat→List AV→Av→KB}{d:Option Nat}{ms:List VN}{es:List uI}{f:Fr}{H:Av}{v:AV}{u:Option Av}{p:Fr×Av}(hq:YY N k B C y d o=true)(hms:lG f B ms)(h1:Bp tb cl (eval tb f) H o=some (v,u))(h2:u.getD H=H)
  (g:Gq tb cl N k ms es l w (put f d v) H p):Gq tb cl N k ms es (⟨d,none,o⟩::l) (some y::w) f H p:=by
 obtain⟨lo,hi⟩:=y
 simp only[YY,Bool.and_eq_true]at hq
 refine .inl ⟨rfl,(v,u),h1,h2,hms.fresh hq.2.1, .inl ⟨by rw[hq.1];rfl,?_⟩⟩
 simp only[oH,hq.1,cond_true]
 exact g
theorem XG{d:Option Nat}(hq:YY N k B C y d o=true):Of d B=true∧R8 d C=true:=by
 simp only[YY,Bool.and_eq_true]at hq;exact hq.2
def kU(B:List Ob)(C':List Cb)(d:Option Nat):Bool:=Of d B&&R8 d C'
theorem stepW{Γ':Cx}{E:Ph}{rv rv':Nat→AV}{fp fp':Fp}{d:Option Nat}{ms:List VN}{es:List uI}{f:Fr}{H:Av}{v:AV}{u:Option Av}(hq:kU B C' d=true)(hb:VM tb Γ' B)(hc:JX Γ k C C')(hms:lG f B ms)(hes:CR f C es)(I0:Bo E Γ rv fp f H)(h1:Bp tb (Ch tb) (eval tb f) H o=some (v,u))(I:Bo E Γ' rv' fp' (put f d v) (u.getD H)):
  ∃es',CR (put f d v) C' es'∧ ∀p,Gq tb (Ch tb) N (k+1) (eA ms) es' l w (put f d v) (u.getD H) p→Gq tb (Ch tb) N k ms es (⟨d,none,o⟩::l) (none::w) f H p:=by
 simp only[kU,Bool.and_eq_true]at hq
 obtain⟨es',g1,g2⟩:=hc.spec I0 hes
 exact⟨es',g1.put hq.2,fun p g=> .inl ⟨rfl,(v,u),es',h1,hms.fresh hq.1,hb.spec I (hms.put hq.1),g2,g⟩⟩
def A9.op{d:Nat}{β:Type}{a:Option β}{φ:β→AK}(hq:YY N k B C y (some d) o=true)(h:Fw tb Γ o a φ)(s:(b:β)→A9 tb (Γ.push d (φ b)) N k B C l w ks Q):A9 tb Γ N k B C (⟨some d,none,o⟩::l) (some y::w) ks Q:=
 ⟨a.bind fun b=>(s b).m,fun E f H ⟨rv,fp,I⟩ ms hms es hes r hr=>by
  obtain⟨b,hb,hr⟩:=Option.bind_eq_some_iff.1 hr
  obtain⟨v,u,h1,h2,h3⟩:=h E rv fp f H I b hb
  obtain⟨p,e,f',H',g,g'⟩:=(s b).ok E (put f (some d) v) H ⟨rv,fp,I.push h3⟩ ms (hms.put (XG hq).1) es (hes.put (XG hq).2) r hr
  exact⟨p,e,f',H',uR hq hms h1 h2 g,g'⟩⟩
def A8{d:Nat}{φ:AK}(hq:YY N k B C y (some d) o=true)(h:Fw tb Γ o (some ()) fun _=>φ)(s:A9 tb (Γ.push d φ) N k B C l w ks Q):A9 tb Γ N k B C (⟨some d,none,o⟩::l) (some y::w) ks Q:=
 ⟨s.m,(A9.op hq h fun _=>s).ok⟩
def DM{d:Nat}{t:T}{x:t.α}(hq:YY N k B C y (some d) o=true)(h:Fw tb Γ o (some ()) fun _=> .val t x)(s:(y:t.α)→A9 tb (Γ.push d (.val t y)) N k B C l w ks Q):A9 tb Γ N k B C (⟨some d,none,o⟩::l) (some y::w) ks Q:=
 A8 hq h (s x)
def FH{d n t lo hi t0 off lo0:Nat}{ag:Bool}{u:T}{x:u.α}(i:Nat){j o o0:Nat}(hi0:C[i]? =some ⟨ag,n,t0,off,lo0,u,x⟩)(ht:BB Γ.ts t=some (.cp j o))(ht0:BB Γ.ts t0=some (.cp j o0))(ho:o=o0+off)
  (hq:(Nat.beq hi k&&(Nat.ble lo0 lo&&(Of (some d) B&&R8 (some d) C)))=true) (hu:u.Uni) (h:Fw tb Γ (.ld ag n (.t t)) (some ()) fun _=> .val u x)
  (s:A9 tb (Γ.push d (.val u x)) N k B C l w ks Q):A9 tb Γ N k B C (⟨some d,none, .ld ag n (.t t)⟩::l) (some (lo,hi)::w) ks Q:=
 ⟨s.m,fun E f H ⟨rv,fp,I⟩ ms hms es hes r hr=>by
  obtain⟨v,u',h1,h2,h3⟩:=h E rv fp f H I () rfl
  simp only[Bool.and_eq_true]at hq
  obtain⟨p,e,f',H',h4,h5⟩:=s.ok E (put f (some d) v) H ⟨rv,fp,I.push h3⟩ ms (hms.put hq.2.2.1) es (hes.put hq.2.2.2) r hr
  obtain⟨x',hx,e1,e2,e3,⟨id,o',e4,e5⟩,P,H0,e6⟩:=hes.find hi0
  have hv:v=x'.v:=hu.V h3 e6
  obtain⟨_,id1,g1,g2⟩:=I.temps _ _ ht
  obtain⟨_,id2,g3,g4⟩:=I.temps _ _ ht0
  rw[g1]at g3;cases g3
  have e4':get f t0= .ptr id o':=e4
  rw[g4]at e4';cases e4'
  refine⟨p,e,f',H', .inl ⟨rfl,(v,u'),h1,h2,hms.fresh hq.2.2.1, .inr ⟨Nat.eq_of_beq_eq_true hq.1,⟨x',hx,t,?_,?_,hv,?_⟩,h4⟩⟩,h5⟩
  ·rw[e1,e2]
  ·rw[g2,e5,ho]
  ·have e3':x'.lo=lo0:=e3
   rw[e3'];exact Nat.le_of_ble_eq_true hq.2.1⟩
def DC{d:Option Nat}{β:Type}{a:Option β}{Γ':β→Cx}(hq:kU B C' d=true)(hb: ∀b,VM tb (Γ' b) B)(hc:JX Γ k C C')(h:Wd tb Γ d o a Γ')(s:(b:β)→A9 tb (Γ' b) N (k+1) (eB B) C' l w ks Q):A9 tb Γ N k B C (⟨d,none,o⟩::l) (none::w) ks Q:=
 ⟨a.bind fun b=>(s b).m,fun E f H ⟨rv,fp,I⟩ ms hms es hes r hr=>by
  obtain⟨b,hb',hr⟩:=Option.bind_eq_some_iff.1 hr
  obtain⟨v,u,h1,rv',fp',h3⟩:=h E rv fp f H I b hb'
  obtain⟨es',g1,g2⟩:=stepW (l:=l) (w:=w) (N:=N) hq (hb b) hc hms hes I h1 h3
  have hq':=hq;simp only[kU,Bool.and_eq_true]at hq'
  obtain⟨p,e,f',H',g,g'⟩:=(s b).ok E _ _ ⟨rv',fp',h3⟩ _ (hms.put hq'.1).dec _ g1 r hr
  exact⟨p,e,f',H',g2 p g,g'⟩⟩
def SimDW.op{d:Nat}{β:Type}{a:Option β}{φ:β→AK}(hq:kU B C' (some d)=true)(hb: ∀b,VM tb (Γ.push d (φ b)) B)(hc:JX Γ k C C')(h:Fw tb Γ o a φ)(s:(b:β)→A9 tb (Γ.push d (φ b)) N (k+1) (eB B) C' l w ks Q):A9 tb Γ N k B C (⟨some d,none,o⟩::l) (none::w) ks Q:=
 DC hq hb hc (a:=a) (Γ':=fun b=>Γ.push d (φ b)) (fun E rv fp f H I b hb'=>by
  obtain⟨v,u,h1,h2,h3⟩:=h E rv fp f H I b hb'
  exact⟨v,u,h1,rv,fp,by rw[h2];exact I.push h3⟩) s
end
end Go.Proofs.YtobejhpigbllpaaGreatDoor.Am
namespace Go.Proofs.YtobejhpigbllpaaGreatDoor.Am
def MO(tB nne:Nat):CI:=⟨false,1,20,[],
 (.seq (rg false [⟨some 2,none, .mv (.t 0)⟩,⟨some 3,none, .nilc (.t 2)⟩,⟨some 4,none, .fa 0 (.t 3)⟩,⟨some 5,none, .ld false 1 (.t 4)⟩,⟨some 6,none, .eq false .p (.t 5) (.k (.nilp))⟩])
 (.cond (.t 6)
  (rg false [⟨some 7,none, .mv (.t 0)⟩,⟨some 8,none, .mv (.t 0)⟩,⟨some 9,none, .cvp (.t 8)⟩,⟨some 10,none, .call nne [(.t 9)]⟩,⟨some 11,none, .cvu tB 2 (.t 10)⟩,⟨some 12,none, .nilc (.t 7)⟩,⟨some 13,none, .fa 0 (.t 12)⟩,⟨none,none, .st 1 (.t 13) (.t 11)⟩])
  (.seq (rg false [⟨some 14,none, .mv (.t 0)⟩,⟨some 15,none, .nilc (.t 14)⟩,⟨some 16,none, .fa 0 (.t 15)⟩,⟨some 17,none, .ld false 1 (.t 16)⟩,⟨some 18,none, .mv (.t 0)⟩,⟨some 19,none, .eqp true (.t 17) (.t 18)⟩])
  (.cond (.t 19)
  .stop
  .skip))))⟩
def Wg(te ncc:Nat):CI:=⟨false,2,19,[.tmp 4, .tmp 5],
 (.seq (rg false [⟨some 4,none, .mv (.k (.i .i64 0))⟩,⟨some 5,none, .mv (.k (.nili))⟩])
 (.seq (rg false [⟨some 6,none, .mv (.t 0)⟩,⟨some 7,none, .call ncc [(.t 6)]⟩])
 (.seq (rg false [⟨some 8,none, .mv (.t 0)⟩,⟨some 9,none, .mv (.t 0)⟩,⟨some 10,none, .nilc (.t 9)⟩,⟨some 11,none, .fa 1 (.t 10)⟩,⟨some 12,none, .ld false 1 (.t 11)⟩,⟨some 13,none, .mv (.t 1)⟩,⟨some 14,none, .app te 1 1 (.t 12) (.t 13)⟩,⟨some 15,none, .nilc (.t 8)⟩,⟨some 16,none, .fa 1 (.t 15)⟩,⟨none,none, .st 1 (.t 16) (.t 14)⟩])
 (.seq (rg false [⟨some 17,none, .mv (.t 1)⟩,⟨some 18,none, .lens (.t 17)⟩,⟨some 4,none, .mv (.t 18)⟩,⟨some 5,none, .mv (.k (.nili))⟩])
 .ret))))⟩
def Wi(te ncc:Nat):CI:=⟨false,2,17,[.tmp 4],
 (.seq (rg false [⟨some 4,none, .mv (.k (.nili))⟩])
 (.seq (rg false [⟨some 5,none, .mv (.t 0)⟩,⟨some 6,none, .call ncc [(.t 5)]⟩])
 (.seq (rg false [⟨some 7,none, .mv (.t 0)⟩,⟨some 8,none, .mv (.t 0)⟩,⟨some 9,none, .nilc (.t 8)⟩,⟨some 10,none, .fa 1 (.t 9)⟩,⟨some 11,none, .ld false 1 (.t 10)⟩,⟨some 12,none, .mv (.t 1)⟩,⟨some 13,none, .bll 1 (List.replicate 1 T.u8.zc) [(0,(.t 12))]⟩,⟨some 14,none, .app te 1 1 (.t 11) (.t 13)⟩,⟨some 15,none, .nilc (.t 7)⟩,⟨some 16,none, .fa 1 (.t 15)⟩,⟨none,none, .st 1 (.t 16) (.t 14)⟩])
 (.seq (rg false [⟨some 4,none, .mv (.k (.nili))⟩])
 .ret))))⟩
def RG(te:Nat):CI:=⟨false,1,14,[.tmp 2],
 (.seq (rg false [⟨some 2,none, .mv (.k (.s []))⟩])
 (.seq (.regd [⟨some 3,none, .mv (.t 0)⟩,⟨some 4,none, .nilc (.t 3)⟩,⟨some 5,none, .fa 1 (.t 4)⟩,⟨some 6,none, .ld false 1 (.t 5)⟩,⟨some 7,none, .usd (.t 6)⟩,⟨some 8,none, .mv (.t 0)⟩,⟨some 9,none, .nilc (.t 8)⟩,⟨some 10,none, .fa 1 (.t 9)⟩,⟨some 11,none, .ld false 1 (.t 10)⟩,⟨some 12,none, .len (.t 11)⟩,⟨some 13,none, .ust te (.t 7) (.t 12)⟩,⟨some 2,none, .mv (.t 13)⟩] [some (0,0),some (0,0),some (0,0),some (0,0),some (0,0),some (0,0),some (0,0),some (0,0),some (0,0),some (0,0),none,some (1,1)])
 .ret))⟩
section
variable{tb:CW}{tB te ncc nne nws nwb nbs:Nat}{h:Av}{id:Nat}{a b:AV}
theorem G3{cs:List AV}{l:Option Nat}(hh:h[id]? =some (.cells l cs)):BX h id=some cs∧Ek h id=l:=⟨by simp only[BX,hh],by simp only[Ek,hh]⟩
theorem gD{els:List (List AV)}{l:Option Nat}{fz:Bool}{sz:Nat}(hh:h[id]? =some (.row l fz sz els)):rowAt h id=some (fz,sz,els)∧Ek h id=l:=⟨by simp only[rowAt,hh],by simp only[Ek,hh]⟩
theorem LD(fn:Bool)(n:Nat)(h:Av)(hn:h.length=n)(vs:List AV)(hv:Bg vs=0): ∃u,WM fn n h vs=(Gp vs,some u)∧u=h:=by
 have h1:dJ h n vs=some vs:=by
  unfold dJ
  exact NS (by omega)
 have h2:h.take n=h:=by rw[←hn];exact List.take_length
 cases fn
 ·simp only[WM,WY,h1,h2]
  split<;>exact⟨_,rfl,rfl⟩
 ·exact⟨_,rfl,rfl⟩
theorem TH(n:Nat)(h:Av)(hn: ¬CB (h.take n)≤n)(vs:List AV)(hv:Bg vs=0)(fn:Bool):WM fn n h vs=(Gp vs,some h):=by
 have h1:dJ h n vs=some vs:=by
  unfold dJ
  exact NS (by omega)
 cases fn
 ·simp only[WM,WY,h1,if_neg hn]
 ·rfl
theorem Wa(hf:tb.prim ncc=none∧tb.fns ncc=some (MO tB nne))(hne:tb.prim nne=some OL)(hh:h[id]? =some (.cells (some tB) [a,b]))(ha:a= .nilp∨a= .ptr id 0):
  B1 tb (Ch tb) h ncc [.ptr id 0]=some (.tup [],some (h.set id (.cells (some tB) [.ptr id 0,b]))):=by
 obtain⟨hc,hl⟩:=G3 hh
 have hid:=(List.getElem?_eq_some_iff.1 hh).1
 simp only[B1,hf.1]
 rw[PI,hf.2]
 rcases ha with rfl|rfl
 ·obtain⟨u,hu,rfl⟩:=LD false h.length (h.set id (.cells (some tB) [.ptr id 0,b])) (by simp) [] rfl
  simp[body,MO,AW,rg,ops,wanted,Bp,eval,get,put,val,load,place,shift,hc,hl,Ho,sub,X8,B1,hne,OL,store,cellsOf,Bw,results,hu,Gp]
 ·have hs:h.set id (.cells (some tB) [.ptr id 0,b])=h:=by
   apply List.ext_getElem?
   intro j
   rw[List.getElem?_set]
   split
   ·rename_i hj;subst hj;exact hh.symm
   ·rfl
  obtain⟨u,hu,rfl⟩:=LD false h.length h rfl [] rfl
  simp[body,MO,AW,rg,ops,wanted,Bp,eval,get,put,val,load,place,shift,hc,Ho,sub,X8,results,hu,Gp,hs]
theorem KA(s:AM):(Bu s).length=s.length:=by simp[Bu]
theorem kV(s t:AM):Bu (s++t)=Bu s++Bu t:=by simp[Bu]
theorem fY{h:Av}{o:BF}(hh:h[id]? =some o):h.set id o=h:=by
 apply List.ext_getElem?
 intro j
 rw[List.getElem?_set]
 split
 ·rename_i hj;subst hj
  split
  ·exact hh.symm
  ·rename_i hn;exact absurd (List.getElem?_eq_some_iff.1 hh).1 hn
 ·rfl
inductive Yg(tB te:Nat)(h:Av)(id:Nat)(s:AM):Av→Prop where
 |none {a:AV} (hh:h[id]? =some (.cells (some tB) [a, .nils])) (ha:a= .nilp∨a= .ptr id 0) (hs:s=[]):Yg tB te h id s (h.set id (.cells (some tB) [.ptr id 0, .nils]))
 |first {a:AV} (hh:h[id]? =some (.cells (some tB) [a, .nils])) (ha:a= .nilp∨a= .ptr id 0) (hs:s≠[]) (hm:s.length≤Be):
  Yg tB te h id s (h.set id (.cells (some tB) [.ptr id 0, .orow h.length s.length 0 s.length])++[.row (some te) false 1 (Bu s)])
 |more {r:Nat} {l:AM} (hh:h[id]? =some (.cells (some tB) [.ptr id 0, .orow r l.length 0 l.length])) (hr:h[r]? =some (.row (some te) false 1 (Bu l))) (hne:r≠id) (hm:l.length+s.length≤Be):
  Yg tB te h id s ((h.set r (.row (some te) false 1 (Bu (l++s)))).set id (.cells (some tB) [.ptr id 0, .orow r (l++s).length 0 (l++s).length]))
theorem aB{s:AM}{G:Av}(hid:id<h.length)(hG:G=h.set id (.cells (some tB) [.ptr id 0, .orow h.length s.length 0 s.length])++[.row (some te) false 1 (Bu s)]): ¬CB (G.take h.length)≤h.length:=by
 have h1:G.take h.length=h.set id (.cells (some tB) [.ptr id 0, .orow h.length s.length 0 s.length]):=by
  rw[hG];exact List.take_left' (by simp)
 rw[h1]
 have key: ∀(h:Av) (id:Nat) (o:BF) (m:Nat),id<h.length→m<Ej o→m<CB (h.set id o):=by
  intro h
  induction h with
  |nil=>intro id o m hi;simp at hi
  |cons x h ih=>
   intro id o m hi ho
   cases id with
   |zero=>simp only[List.set_cons_zero,CB];omega
   |succ id=>simp only[List.set_cons_succ,CB];have:=ih id o m (by simpa using hi) ho;omega
 have:=key h id (.cells (some tB) [.ptr id 0, .orow h.length s.length 0 s.length]) h.length hid (by simp only[Ej,Bg,B7];omega)
 omega
theorem MS{d:Option Nat}{o:HN}{l:List AT}{f:Fr}{v:AV}{u:Option Av}{r:Option (Fr×Av)}(e:Bp tb (Ch tb) (eval tb f) h o=some (v,u))(k:ops tb (Ch tb) l (put f d v) (u.getD h)=r):ops tb (Ch tb) (⟨d,none,o⟩::l) f h=r:=by
 simp[ops,wanted,e,k]
theorem Jf{l:List AT}{y:AC}{f f':Fr}{h':Av}(e:ops tb (Ch tb) l f h=some (f',h')):AW tb (Ch tb) (.seq (rg false l) y) f h=AW tb (Ch tb) y f' h':=by
 simp[AW,rg,e]
theorem uS{N j:Nat}{d:Option Nat}{o:HN}{l:List AT}{w:List (Option (Nat×Nat))}{y:Nat×Nat}{f:Fr}{v:AV}{p:Fr×Av}(e:Bp tb (Ch tb) (eval tb f) h o=some (v,none))(k:Gq tb (Ch tb) N j [] [] l w (put f d v) h p)(hq:Rx N j y.1 y.2 o=true:=by rfl):Gq tb (Ch tb) N j [] [] (⟨d,none,o⟩::l) (some y::w) f h p:=by
 obtain⟨lo,hi⟩:=y
 refine .inl ⟨rfl,(v,none),e,rfl,rfl, .inl ⟨by rw[hq];rfl,?_⟩⟩
 simp only[oH,hq,cond_true]
 exact k
theorem stW{N j:Nat}{d:Option Nat}{o:HN}{l:List AT}{w:List (Option (Nat×Nat))}{f:Fr}{v:AV}{u:Option Av}{p:Fr×Av}(e:Bp tb (Ch tb) (eval tb f) h o=some (v,u))(k:Gq tb (Ch tb) N (j+1) [] [] l w (put f d v) (u.getD h) p):Gq tb (Ch tb) N j [] [] (⟨d,none,o⟩::l) (none::w) f h p:=
 .inl ⟨rfl,(v,u),[],e,rfl,(fun _ hm=>absurd hm (by simp)),(fun _ hx=>absurd hx (by simp)),k⟩
theorem stE{N:Nat}{f:Fr}:Gq tb (Ch tb) N N [] [] [] [] f h (f,h):=⟨rfl,rfl⟩
theorem oZ{x y:AC}{f f':Fr}{h':Av}(e:AW tb (Ch tb) x f h=some (.normal,f',h')):AW tb (Ch tb) (.seq x y) f h=AW tb (Ch tb) y f' h':=by
 simp[AW,e]
theorem aC{cl:Nat→List AV→Av→KB}{rho:AO→AV}{x:AO}{ag:Bool}{n:Nat}{v:AV}(e:load h ag n (rho x)=some v):Bp tb cl rho h (.ld ag n x)=some (v,none):=by simp[Bp,e,val]
theorem zZ{cl:Nat→List AV→Av→KB}{rho:AO→AV}{s x:AO}{t sz b:Nat}{new:List (List AV)}{r:AV×Option Av}(e:gR h sz (rho x)=some new)(e':Ur h t sz b (rho s) new=some r):Bp tb cl rho h (.app t sz b s x)=some r:=by simp[Bp,e,e']
theorem ap_st{cl:Nat→List AV→Av→KB}{rho:AO→AV}{a x:AO}{n:Nat}{G:Av}(e:store h n (rho a) (rho x)=some G):Bp tb cl rho h (.st n a x)=some (.junk,some G):=by simp[Bp,e]
theorem ap_len{cl:Nat→List AV→Av→KB}{rho:AO→AV}{x:AO}{n:Nat}(e:P7 (rho x)=some n):Bp tb cl rho h (.len x)=some (.i .i64 n,none):=by simp[Bp,e]
theorem Wb{rho:AO→AV}{g:Nat}{xs:List AO}{r:AV×Option Av}(e:B1 tb (Ch tb) h g (xs.map rho)=some r):Bp tb (Ch tb) rho h (.call g xs)=some r:=by simp only[Bp];exact e
theorem ws_run{s:AM}{h1 G:Av}{bv bv':AV}{u2:Option Av}(hc:B1 tb (Ch tb) h ncc [.ptr id 0]=some (.tup [],some h1))(hld:load h1 false 1 (.ptr id 1)=some bv)(hap:Ur h1 te 1 1 bv (Bu s)=some (bv',u2))(hst:store (u2.getD h1) 1 (.ptr id 1) bv'=some G):
  ∃f',AW tb (Ch tb) (Wg te ncc).body [(0, .ptr id 0),(1, .s s)] h=some (.ret,f',G)∧results f' G [.tmp 4, .tmp 5]=some [.i .i64 s.length, .nili]:=by
 apply Exists.intro
 apply And.intro
 ·unfold Wg
  simp only
  refine(Jf (MS (v:= .i .i64 0) (u:=none) rfl (MS (v:= .nili) (u:=none) rfl rfl))).trans ?_
  refine(Jf (MS (v:= .ptr id 0) (u:=none) rfl (MS (v:= .tup []) (u:=some h1) (Wb (by exact hc)) rfl))).trans ?_
  refine(Jf (MS (v:= .ptr id 0) (u:=none) rfl (MS (v:= .ptr id 0) (u:=none) rfl (MS (v:= .ptr id 0) (u:=none) rfl (MS (v:= .ptr id 1) (u:=none) rfl (MS (v:=bv) (u:=none) (aC (by exact hld))
   (MS (v:= .s s) (u:=none) rfl (MS (v:=bv') (u:=u2) (zZ (new:=Bu s) rfl (by exact hap)) (MS (v:= .ptr id 0) (u:=none) rfl (MS (v:= .ptr id 1) (u:=none) rfl
   (MS (v:= .junk) (u:=some G) (ap_st (by exact hst)) rfl))))))))))).trans ?_
  refine(Jf (MS (v:= .s s) (u:=none) rfl (MS (v:= .i .i64 s.length) (u:=none) rfl (MS (v:= .i .i64 s.length) (u:=none) rfl (MS (v:= .nili) (u:=none) rfl rfl))))).trans ?_
  rfl
 ·rfl
theorem wb_run{c:UInt8}{h1 G:Av}{bv bv':AV}{u2:Option Av}(hc:B1 tb (Ch tb) h ncc [.ptr id 0]=some (.tup [],some h1))(hld:load h1 false 1 (.ptr id 1)=some bv)(hap:Ur h1 te 1 1 bv (Bu [c])=some (bv',u2))(hst:store (u2.getD h1) 1 (.ptr id 1) bv'=some G):
  ∃f',AW tb (Ch tb) (Wi te ncc).body [(0, .ptr id 0),(1, .i .u8 c.toNat)] h=some (.ret,f',G)∧results f' G [.tmp 4]=some [.nili]:=by
 apply Exists.intro
 apply And.intro
 ·unfold Wi
  simp only
  refine(Jf (MS (v:= .nili) (u:=none) rfl rfl)).trans ?_
  refine(Jf (MS (v:= .ptr id 0) (u:=none) rfl (MS (v:= .tup []) (u:=some h1) (Wb (by exact hc)) rfl))).trans ?_
  refine(Jf (MS (v:= .ptr id 0) (u:=none) rfl (MS (v:= .ptr id 0) (u:=none) rfl (MS (v:= .ptr id 0) (u:=none) rfl (MS (v:= .ptr id 1) (u:=none) rfl (MS (v:=bv) (u:=none) (aC (by exact hld))
   (MS (v:= .i .u8 c.toNat) (u:=none) rfl (MS (v:= .sl 1 (Bu [c])) (u:=none) rfl (MS (v:=bv') (u:=u2) (zZ (new:=Bu [c]) rfl (by exact hap)) (MS (v:= .ptr id 0) (u:=none) rfl (MS (v:= .ptr id 1) (u:=none) rfl
   (MS (v:= .junk) (u:=some G) (ap_st (by exact hst)) rfl)))))))))))).trans ?_
  refine(Jf (MS (v:= .nili) (u:=none) rfl rfl)).trans ?_
  rfl
 ·rfl
theorem Xp(hcc:tb.prim ncc=none∧tb.fns ncc=some (MO tB nne))(hne:tb.prim nne=some OL){s:AM}{G:Av}(hg:Yg tB te h id s G):
  ∃h1 bv bv' u2,B1 tb (Ch tb) h ncc [.ptr id 0]=some (.tup [],some h1)∧load h1 false 1 (.ptr id 1)=some bv∧Ur h1 te 1 1 bv (Bu s)=some (bv',u2)∧store (u2.getD h1) 1 (.ptr id 1) bv'=some G∧
   (G.length=h.length∨ ¬CB (G.take h.length)≤h.length):=by
 cases hg with
 |none hh ha hs=>
  subst hs
  have hc:=Wa hcc hne hh ha
  have hid:=(List.getElem?_eq_some_iff.1 hh).1
  have h2:=G3 (h:=h.set id (.cells (some tB) [.ptr id 0, .nils])) (List.getElem?_set_self hid)
  refine⟨_, .nils, .nils,none,hc,?_,?_,?_, .inl (by simp)⟩
  ·simp[load,place,h2.1,Ho,sub]
  ·simp[Ur,Bu]
  ·simp[store,h2.1,h2.2,cellsOf,Bw]
 |first hh ha hs hm=>
  have hc:=Wa hcc hne hh ha
  have hid:=(List.getElem?_eq_some_iff.1 hh).1
  have h2:=G3 (h:=h.set id (.cells (some tB) [.ptr id 0, .nils])) (List.getElem?_set_self hid)
  have hid':id<(h.set id (BF.cells (some tB) [.ptr id 0, .nils])).length:=by simpa using hid
  have h3:(h.set id (BF.cells (some tB) [.ptr id 0, .nils])++[BF.row (some te) false 1 (Bu s)])[id]? =some (.cells (some tB) [.ptr id 0, .nils]):=by
   rw[List.getElem?_append_left hid']
   exact List.getElem?_set_self hid
  have h4:=G3 h3
  have hs0: ¬s.length=0:=by simpa using hs
  refine⟨_, .nils, .orow h.length s.length 0 s.length,some (h.set id (BF.cells (some tB) [.ptr id 0, .nils])++[BF.row (some te) false 1 (Bu s)]),hc,?_,?_,?_, .inr (aB (te:=te) (tB:=tB) (s:=s) hid rfl)⟩
  ·simp[load,place,h2.1,Ho,sub]
  ·simp[Ur,KA,hs,hm]
  ·simp[store,h4.1,h4.2,cellsOf,Bw]
   rw[List.set_append_left _ _ hid',List.set_set]
 | @more r l hh hr hne' hm=>
  have hc:=Wa hcc hne hh (.inr rfl)
  rw[fY hh]at hc
  have h1:=G3 hh
  have hrow:=gD hr
  by_cases hs:s=[]
  ·subst hs
   have hm':l.length≤Be:=by simpa using hm
   refine⟨_, .orow r l.length 0 l.length, .orow r l.length 0 l.length,none,hc,?_,?_,?_, .inl (by simp)⟩
   ·simp[load,place,h1.1,Ho,sub]
   ·simp[Ur,hrow.1,KA,hm',Bu]
   ·simp[store,h1.1,h1.2,cellsOf,Bw,fY hr]
  ·have h2:(h.set r (BF.row (some te) false 1 (Bu (l++s))))[id]? =some (.cells (some tB) [.ptr id 0, .orow r l.length 0 l.length]):=by
    rw[List.getElem?_set_ne hne'];exact hh
   have h3:=G3 h2
   have hs0: ¬s.length=0:=by simpa using hs
   refine⟨_, .orow r l.length 0 l.length, .orow r (l++s).length 0 (l++s).length,some (h.set r (BF.row (some te) false 1 (Bu (l++s)))),hc,?_,?_,?_, .inl (by simp)⟩
   ·simp[load,place,h1.1,Ho,sub]
   ·simp[Ur,hrow.1,hrow.2,KA,kV,hm,hs,UB]
   ·simp[store,h3.1,h3.2,cellsOf,Bw]
theorem OE{fn:CI}{args vs:List AV}{f f':Fr}{G:Av}{e:Ex}(hn:args.length=fn.np)(hf:(args.zipIdx.map fun p=>(p.2,p.1))=f)(he:AW tb (Ch tb) fn.body f h=some (e,f',G))(hex:e= .ret∨e= .normal)(hr:results f' G fn.res=some vs):
  body tb (Ch tb) fn args h=some (WM fn.warm h.length G vs):=by
 simp only[body,if_pos hn,hf,he,Option.bind_some]
 rcases hex with rfl|rfl<;>simp[hr]
theorem ws_eval(hf:tb.prim nws=none∧tb.fns nws=some (Wg te ncc))(hcc:tb.prim ncc=none∧tb.fns ncc=some (MO tB nne))(hne:tb.prim nne=some OL){s:AM}{G:Av}(hg:Yg tB te h id s G):
  B1 tb (Ch tb) h nws [.ptr id 0, .s s]=some (.tup [.i .i64 s.length, .nili],some G):=by
 obtain⟨h1,bv,bv',u2,a1,a2,a3,a4,a5⟩:=Xp hcc hne hg
 obtain⟨f',e1,e2⟩:=ws_run a1 a2 a3 a4
 simp only[B1,hf.1]
 rw[PI,hf.2]
 simp only[Option.bind_some]
 rw[OE (tb:=tb) (h:=h) (fn:=Wg te ncc) (args:=[.ptr id 0, .s s]) rfl rfl e1 (.inl rfl) e2]
 rcases a5 with a5|a5
 ·obtain⟨u,hu,rfl⟩:=LD false h.length G a5 [.i .i64 s.length, .nili] rfl
  exact congrArg some hu
 ·exact congrArg some (TH h.length G a5 [.i .i64 s.length, .nili] rfl false)
theorem wb_eval(hf:tb.prim nwb=none∧tb.fns nwb=some (Wi te ncc))(hcc:tb.prim ncc=none∧tb.fns ncc=some (MO tB nne))(hne:tb.prim nne=some OL){c:UInt8}{G:Av}(hg:Yg tB te h id [c] G):
  B1 tb (Ch tb) h nwb [.ptr id 0, .i .u8 c.toNat]=some (.nili,some G):=by
 obtain⟨h1,bv,bv',u2,a1,a2,a3,a4,a5⟩:=Xp hcc hne hg
 obtain⟨f',e1,e2⟩:=wb_run a1 a2 a3 a4
 simp only[B1,hf.1]
 rw[PI,hf.2]
 simp only[Option.bind_some]
 rw[OE (tb:=tb) (h:=h) (fn:=Wi te ncc) (args:=[.ptr id 0, .i .u8 c.toNat]) rfl rfl e1 (.inl rfl) e2]
 rcases a5 with a5|a5
 ·obtain⟨u,hu,rfl⟩:=LD false h.length G a5 [.nili] rfl
  exact congrArg some hu
 ·exact congrArg some (TH h.length G a5 [.nili] rfl false)
theorem ZW: ∀l:AM,Ev (Bu l)=some l
 |[]=>rfl
 |c::l=>by
  have:=ZW l
  simp only[Bu,List.map_cons,Ev]at this ⊢
  rw[this]
  simp
theorem zS{G:Av}{bv pv:AV}{n:Nat}{s:AM}{u2:Option Av}(hld:load h false 1 (.ptr id 1)=some bv)(hus:Bp tb (Ch tb) (fun _=>bv) h (.usd (.t 0))=some (pv,none))(hln:P7 bv=some n)
  (hst:Bp tb (Ch tb) (fun a=>match a with| .t 0=>pv|_=> .i .i64 n) h (.ust te (.t 0) (.t 1))=some (.s s,u2)) (hG:u2.getD h=G):
  ∃f',AW tb (Ch tb) (RG te).body [(0, .ptr id 0)] h=some (.ret,f',G)∧results f' G [.tmp 2]=some [.s s]:=by
 subst hG
 apply Exists.intro
 apply And.intro
 ·unfold RG
  simp only
  refine(Jf (MS (v:= .s []) (u:=none) rfl rfl)).trans ?_
  refine(oZ (ZR (n:=1) (p:=(_,u2.getD h))
   (uS (v:= .ptr id 0) rfl (uS (v:= .ptr id 0) rfl (uS (v:= .ptr id 1) rfl (uS (v:=bv) (aC (by exact hld)) (uS (v:=pv) (by exact hus) (uS (v:= .ptr id 0) rfl (uS (v:= .ptr id 0) rfl (uS (v:= .ptr id 1) rfl (uS (v:=bv) (aC (by exact hld)) (uS (v:= .i .i64 n) (ap_len (by exact hln))
    (stW (v:= .s s) (u:=u2) (by exact hst) (uS (v:= .s s) rfl stE)))))))))))))).trans ?_
  rfl
 ·rfl
theorem kW(hf:tb.prim nbs=none∧tb.fns nbs=some (RG te))(hh:h[id]? =some (.cells (some tB) [a, .nils])):B1 tb (Ch tb) h nbs [.ptr id 0]=some (.s [],some h):=by
 have hcl:=(G3 hh).1
 obtain⟨f',e1,e2⟩:=zS (tb:=tb) (te:=te) (h:=h) (id:=id) (G:=h) (bv:= .nils) (pv:= .nilp) (n:=0) (s:=[]) (u2:=none) (by simp[load,place,hcl,Ho,sub]) rfl rfl (by simp[Bp,HQ]) rfl
 simp only[B1,hf.1]
 rw[PI,hf.2]
 simp only[Option.bind_some]
 rw[OE (tb:=tb) (h:=h) (fn:=RG te) (args:=[.ptr id 0]) rfl rfl e1 (.inl rfl) e2]
 obtain⟨u,hu,rfl⟩:=LD false h.length h rfl [.s []] rfl
 exact congrArg some hu
theorem bs_eval(hf:tb.prim nbs=none∧tb.fns nbs=some (RG te)){r:Nat}{l:AM}(hh:h[id]? =some (.cells (some tB) [a, .orow r l.length 0 l.length]))(hr:h[r]? =some (.row (some te) false 1 (Bu l)))(hl:l≠[])(hm:l.length≤Be):
  B1 tb (Ch tb) h nbs [.ptr id 0]=some (.s l,some (h.set r (.row (some te) true 1 (Bu l)))):=by
 have hcl:=(G3 hh).1
 have hrow:=gD hr
 have hpos:0<l.length:=List.length_pos_iff.2 hl
 have htk:(Bu l).take l.length=Bu l:=List.take_of_length_le (by simp[Bu])
 obtain⟨f',e1,e2⟩:=zS (tb:=tb) (te:=te) (h:=h) (id:=id) (G:=h.set r (.row (some te) true 1 (Bu l))) (bv:= .orow r l.length 0 l.length) (pv:= .pe r l.length 0 0) (n:=l.length) (s:=l) (u2:=some (h.set r (.row (some te) true 1 (Bu l))))
  (by simp[load,place,hcl,Ho,sub]) (by simp[Bp,hrow.1,KA,hpos]) rfl (by simp[Bp,HQ,hrow.1,hrow.2,KA,hpos,htk,ZW,show(l.length:Int)≤Be by omega]) rfl
 simp only[B1,hf.1]
 rw[PI,hf.2]
 simp only[Option.bind_some]
 rw[OE (tb:=tb) (h:=h) (fn:=RG te) (args:=[.ptr id 0]) rfl rfl e1 (.inl rfl) e2]
 obtain⟨u,hu,rfl⟩:=LD false h.length (h.set r (.row (some te) true 1 (Bu l))) (by simp) [.s l] rfl
 exact congrArg some hu
end
end Go.Proofs.YtobejhpigbllpaaGreatDoor.Am
namespace Go.Proofs.YtobejhpigbllpaaGreatDoor.Am
def OG(tB te:Nat)(g:Bool):Dom where
 α:=AM
 R:=fun F _ H v l=> ∃id,v= .ptr id 0∧((g=false∧l=[]∧ ∃a,(a= .nilp∨a= .ptr id 0)∧H[id]? =some (.cells (some tB) [a, .nils])∧ ∀i,F i↔i=id)∨
  ((g=true∨l≠[])∧ ∃r,r≠id∧H[id]? =some (.cells (some tB) [.ptr id 0, .orow r l.length 0 l.length])∧H[r]? =some (.row (some te) false 1 (Bu l))∧ ∀i,F i↔(i=id∨i=r)))
 lt:=by
  rintro F P H v l ⟨id,_,⟨_,_,a,_,h,hF⟩|⟨_,r,_,h,h',hF⟩⟩ i hi
  ·obtain rfl:=(hF i).1 hi;exact AS h
  ·rcases(hF i).1 hi with rfl|rfl
   ·exact AS h
   ·exact AS h'
 men:=by
  rintro F P H v l m ⟨id,rfl,⟨_,_,a,_,h,hF⟩|⟨_,r,_,h,h',hF⟩⟩ _ hm
  ·exact hm id ((hF id).2 rfl)
  ·exact hm id ((hF id).2 (.inl rfl))
 mono:=by
  rintro F P Q H G v l _ hG ⟨id,hv,⟨h0,h1,a,h2,h,hF⟩|⟨h0,r,h1,h,h',hF⟩⟩
  ·exact⟨id,hv, .inl ⟨h0,h1,a,h2,by rw[hG id ((hF id).2 rfl)];exact h,hF⟩⟩
  ·exact⟨id,hv, .inr ⟨h0,r,h1,by rw[hG id ((hF id).2 (.inl rfl))];exact h,by rw[hG r ((hF r).2 (.inr rfl))];exact h',hF⟩⟩
def DUsed:Dom where
 α:=Unit
 R:=fun F _ H v _=>(∀i,F i→i<H.length)∧ ∃id,v= .ptr id 0∧F id
 lt:=fun h=>h.1
 men:=by rintro F P H v x m ⟨_,id,rfl,h⟩ _ hm;exact hm id h
 mono:=by
  rintro F P Q H G v x _ hG ⟨h,id,hv,hi⟩
  refine⟨fun i hi=> ?_,id,hv,hi⟩
  have h1:=h i hi
  have h2:=hG i hi
  rw[List.getElem?_eq_getElem h1]at h2
  exact AS h2
theorem NR(l:AM):CJ (Bu l)=0:=by
 have:=(aE (P:=fun _=>False) (H:=[]) l).men (m:=0) (fun _ h=>h.elim)
 omega
section
variable{tb:CW}{tB te ncc nne nws nwb nbs:Nat}
theorem kY{g:Bool}{F P:Nat→Prop}{H:Av}{v:AV}{l s:AM}(hw:CB H≤H.length)(h:(OG tB te g).R F P H v l)(hm:l.length+s.length≤Be):
  ∃id G F',v= .ptr id 0∧Yg tB te H id s G∧H.length≤G.length∧(∀i,i<H.length→ ¬F i→G[i]? =H[i]?)∧(∀i,F' i→F i∨(H.length≤i∧i<G.length))∧CB G≤G.length∧ ∀Q,(OG tB te g).R F' Q G v (l++s):=by
 obtain⟨id,hv,⟨h0,h1,a,ha,hh,hF⟩|⟨h0,r,hne,hh,hr,hF⟩⟩:=h
 ·subst h1
  have hid:=AS hh
  by_cases hs:s=[]
  ·subst hs
   refine⟨id,_,F,hv, .none hh ha rfl,by simp,fun i _ hi=>List.getElem?_set_ne fun e=>hi ((hF i).2 e.symm),fun i hi=> .inl hi,?_,fun Q=>⟨id,hv, .inl ⟨h0,rfl,_, .inr rfl,List.getElem?_set_self hid,hF⟩⟩⟩
   simp only[List.length_set]
   exact Hx hw (by simp only[Ej,Bg,B7];omega)
  ·refine⟨id,_,fun i=>i=id∨i=H.length,hv, .first hh ha hs (by simpa using hm),by simp,fun i hi hn=> ?_,fun i hi=> ?_,?_,fun Q=>⟨id,hv, .inr ⟨.inr (by simpa using hs),H.length,by omega,?_,?_,fun i=>Iff.rfl⟩⟩⟩
   ·rw[List.getElem?_append_left (by simpa using hi)]
    exact List.getElem?_set_ne fun e=>hn ((hF i).2 e.symm)
   ·rcases hi with rfl|rfl
    ·exact .inl ((hF _).2 rfl)
    ·exact .inr ⟨Nat.le_refl _,by simp⟩
   ·rw[Qh]
    have:=Hx (l:=H) (i:=id) (o:= .cells (some tB) [.ptr id 0, .orow H.length s.length 0 s.length]) (m:=H.length+1) (by omega) (by simp only[Ej,Bg,B7];omega)
    simp only[CB,Ej,NR,List.length_append,List.length_set,List.length_cons,List.length_nil]
    omega
   ·rw[List.getElem?_append_left (by simpa using hid),List.nil_append]
    exact List.getElem?_set_self hid
   ·rw[List.getElem?_append_right (by simp)];simp
 ·have hid:=AS hh
  have hrd:=AS hr
  refine⟨id,_,F,hv, .more hh hr hne hm,by simp,fun i _ hi=> ?_,fun i hi=> .inl hi,?_,fun Q=>⟨id,hv, .inr ⟨?_,r,hne,?_,?_,hF⟩⟩⟩
  ·rw[List.getElem?_set_ne (fun e=>hi ((hF i).2 (.inl e.symm))),List.getElem?_set_ne (fun e=>hi ((hF i).2 (.inr e.symm)))]
  ·simp only[List.length_set]
   exact Hx (Hx hw (by simp only[Ej,NR];omega)) (by simp only[Ej,Bg,B7];omega)
  ·rcases h0 with h0|h0
   ·exact .inl h0
   ·exact .inr (by simp[h0])
  ·exact List.getElem?_set_self (by simpa using hid)
  ·rw[List.getElem?_set_ne (Ne.symm hne)]
   exact List.getElem?_set_self hrd
variable{Γ:Cx}{a b:AO}
theorem oL{d:Nat}{z:List AV}(j:Nat)(te:Nat)(hz:z=[.nilp, .nils])(hj:AG Γ.ss j=none):Wd tb Γ (some d) (.alloc tB z) (some ([]:AM)) fun l=>⟨(d, .own j)::Γ.ts,(j, .dom (OG tB te false) l)::Γ.ss⟩:=by
 rintro E rv fp f H R _ ⟨⟩
 subst hz
 obtain⟨rv',fp',h1,h2,h3⟩:=R.more (j:=j) (S:= .dom (OG tB te false) []) (v:= .ptr H.length 0) (o:= .cells (some tB) [.nilp, .nils]) (Hy hj) (by simp only[Ej,Bg,B7];omega) rfl (by simp[B7]) rfl fun rv' fp' e1 e2 hP hs=>
  ⟨H.length,e1, .inl ⟨rfl,rfl, .nilp, .inl rfl,by simp,e2⟩⟩
 exact⟨_,_,rfl,rv',fp',h3.push (d:=d) (φ:= .own j) ⟨h2,h1.symm⟩⟩
theorem Bo.dom{E:Ph}{rv:Nat→AV}{fp:Fp}{f:Fr}{H G:Av}(R:Bo E Γ rv fp f H){j:Nat}{S:CY}{D:Dom}{y:D.α}(hnk:D5 (AG Γ.ss j)=false)(hl:AZ Γ.ss j){F':Nat→Prop}(hlen:H.length≤G.length)(hG: ∀i,i<H.length→ ¬fp j i→G[i]? =H[i]?)
  (hF: ∀i,F' i→fp j i∨(H.length≤i∧i<G.length)) (hw:CB G≤G.length) (hS:S= .dom D y) (hR: ∀Q,D.R F' Q G (rv j) y):
  ∃rv' fp',rv' j=rv j∧AZ ((j,S)::Γ.ss) j∧Bo E ⟨Γ.ts,(j,S)::Γ.ss⟩ rv' fp' f G:=by
 subst hS
 exact R.chg (j:=j) (S:= .dom D y) (v:=rv j) (F:=F') (G:=G) hnk rfl hlen (fun i hi hn=>hG i hi (hn hl)) (fun i hi=>(hF i hi).imp (fun h=>⟨hl,h⟩) id) (fun _=> .inl rfl) hw (Nat.le_trans (R.rvlt j hl) hlen) (.inr ((R.scal j hl).resolve_left (by rw[hnk];simp)))
  fun rv' fp' e1 e2 _ _=>by
   show D.R (fp' j) _ G (rv' j) y
   rw[e1,e2];exact hR _
def LS(l s:AM):Option AM:=if l.length+s.length≤Be then some (l++s)else none
theorem Ye{g:Bool}{d j:Nat}{l s:AM}(hcc:tb.prim ncc=none∧tb.fns ncc=some (MO tB nne))(hne:tb.prim nne=some OL)(hf:tb.prim nws=none∧tb.fns nws=some (Wg te ncc))
  (ha:C7 tb Γ a (.own j)) (hj:AG Γ.ss j=some (.dom (OG tB te g) l)) (hb:C7 tb Γ b (.val Ax s)):
  Wd tb Γ (some d) (.call nws [a,b]) (LS l s) fun l'=>⟨(d, .junk)::Γ.ts,(j, .dom (OG tB te g) l')::Γ.ss⟩:=by
 intro E rv fp f H R l' hl'
 simp only[LS]at hl'
 split at hl'
 ·rename_i hm
  cases hl'
  obtain⟨hl,hv⟩:=ha E rv fp f H R
  obtain⟨id,G,F',e,hg,h1,h2,h3,h4,h5⟩:=kY (s:=s) R.wf (R.slots j _ hj) hm
  obtain⟨rv',fp',g1,g2,g3⟩:=R.dom (G:=G) (F':=F') (by rw[hj];rfl) hl h1 h2 h3 h4 rfl h5
  refine⟨.tup [.i .i64 s.length, .nili],some G,?_,rv',fp',g3.push (d:=d) (φ:= .junk) trivial⟩
  simp only[Bp,List.map_cons,List.map_nil,hv,e,E8.1 (hb E rv fp f H R)]
  exact ws_eval hf hcc hne hg
 ·cases hl'
theorem AaB{g:Bool}{d j:Nat}{l:AM}{c:UInt8}(hcc:tb.prim ncc=none∧tb.fns ncc=some (MO tB nne))(hne:tb.prim nne=some OL)(hf:tb.prim nwb=none∧tb.fns nwb=some (Wi te ncc))
  (ha:C7 tb Γ a (.own j)) (hj:AG Γ.ss j=some (.dom (OG tB te g) l)) (hb:C7 tb Γ b (.val T.u8 c)):
  Wd tb Γ (some d) (.call nwb [a,b]) (LS l [c]) fun l'=>⟨(d, .junk)::Γ.ts,(j, .dom (OG tB te g) l')::Γ.ss⟩:=by
 intro E rv fp f H R l' hl'
 simp only[LS]at hl'
 split at hl'
 ·rename_i hm
  cases hl'
  obtain⟨hl,hv⟩:=ha E rv fp f H R
  obtain⟨id,G,F',e,hg,h1,h2,h3,h4,h5⟩:=kY (s:=[c]) R.wf (R.slots j _ hj) hm
  obtain⟨rv',fp',g1,g2,g3⟩:=R.dom (G:=G) (F':=F') (by rw[hj];rfl) hl h1 h2 h3 h4 rfl h5
  refine⟨.nili,some G,?_,rv',fp',g3.push (d:=d) (φ:= .junk) trivial⟩
  simp only[Bp,List.map_cons,List.map_nil,hv,e,Uu.1 (hb E rv fp f H R)]
  exact wb_eval hf hcc hne hg
 ·cases hl'
def eI(g:Bool)(l:AM):Option AM:=if l.length≤Be∧(g=true→l≠[])then some l else none
theorem oK{g:Bool}{d j:Nat}{l:AM}(hf:tb.prim nbs=none∧tb.fns nbs=some (RG te))(ha:C7 tb Γ a (.own j))(hj:AG Γ.ss j=some (.dom (OG tB te g) l)):
  Wd tb Γ (some d) (.call nbs [a]) (eI g l) fun l'=>⟨(d, .val Ax l')::Γ.ts,(j, .dom DUsed ())::Γ.ss⟩:=by
 intro E rv fp f H R l' hl'
 simp only[eI]at hl'
 split at hl'
 ·rename_i hc
  obtain⟨hm,hg⟩:=hc
  cases hl'
  obtain⟨hl,hv⟩:=ha E rv fp f H R
  have hd:=R.slots j _ hj
  obtain⟨id,e,⟨h0,h1,x,hx,hh,hF⟩|⟨h0,r,hne',hh,hr,hF⟩⟩:=hd
  ·subst h1
   obtain⟨rv',fp',g1,g2,g3⟩:=R.dom (D:=DUsed) (y:=()) (G:=H) (F':=fp j) (by rw[hj];rfl) hl (Nat.le_refl _) (fun _ _ _=>rfl) (fun i hi=> .inl hi) R.wf rfl (fun Q=>⟨fun i hi=>(R.fplt j i hl hi).1,id,e,(hF id).2 rfl⟩)
   refine⟨.s [],some H,?_,rv',fp',g3.push (d:=d) (φ:= .val Ax []) (E8.2 rfl)⟩
   simp only[Bp,List.map_cons,List.map_nil,hv,e]
   exact kW hf hh
  ·have hl0:l≠[]:=by
    rcases h0 with h0|h0
    ·exact hg h0
    ·exact h0
   have hrd:=AS hr
   obtain⟨rv',fp',g1,g2,g3⟩:=R.dom (D:=DUsed) (y:=()) (G:=H.set r (.row (some te) true 1 (Bu l))) (F':=fp j) (by rw[hj];rfl) hl (by simp) (fun i _ hn=>List.getElem?_set_ne fun e=>hn ((hF i).2 (.inr e.symm))) (fun i hi=> .inl hi)
    (by simp only[List.length_set];exact Hx R.wf (by simp only[Ej,NR];omega)) rfl (fun Q=>⟨fun i hi=>by simpa using (R.fplt j i hl hi).1,id,e,(hF id).2 (.inl rfl)⟩)
   refine⟨.s l,some (H.set r (.row (some te) true 1 (Bu l))),?_,rv',fp',g3.push (d:=d) (φ:= .val Ax l) (E8.2 rfl)⟩
   simp only[Bp,List.map_cons,List.map_nil,hv,e]
   exact bs_eval hf hh hr hl0 hm
 ·cases hl'
end
end Go.Proofs.YtobejhpigbllpaaGreatDoor.Am
namespace Go.Proofs.YtobejhpigbllpaaGreatDoor.Am
section
variable{tb:CW}{Γ:Cx}{a b:AO}{E:Ph}{rv:Nat→AV}{fp:Fp}{f:Fr}{H:Av}
theorem R1{n j:Nat}{φ:AK}(h:BB Γ.ts n=some (.kv j))(hj:AG Γ.ss j=some (.keep φ)):C7 tb Γ (.t n) φ:=by
 intro E rv fp f H I
 have h1:=(I.temps n _ h).2
 have h2:=(I.slots j _ hj).1
 show FR rv Γ.ss (Pf E Γ.ss fp H) H φ (get f n)
 rw[h1];exact h2
theorem Hv{g:Nat}:C7 tb Γ (.f g) (.fnv (.func g) [] []):=fun _ _ _ _ _ _=>⟨fun j hj=>(by cases hj),rfl⟩
theorem Bo.keepNew(I:Bo E Γ rv fp f H){j:Nat}{φ:AK}{v:AV}(hj:AG Γ.ss j=none)(h:FR rv Γ.ss (Pf E Γ.ss fp H) H φ v)(hv:B7 v≤H.length):
  ∃rv' fp',rv' j=v∧(∀k,k≠j→rv' k=rv k)∧Bo E ⟨Γ.ts,(j, .keep φ)::Γ.ss⟩ rv' fp' f H∧ ∀ψ w,FR rv Γ.ss (Pf E Γ.ss fp H) H ψ w→FR rv' ((j, .keep φ)::Γ.ss) (Pf E ((j, .keep φ)::Γ.ss) fp' H) H ψ w:=by
 have hnl:=Hy hj
 let rv':Nat→AV:=fun k=>if k=j then v else rv k
 let fp':Fp:=fun k=>if k=j then fun _=>False else fp k
 have hrj:rv' j=v:=if_pos rfl
 have hfj: ∀i,¬fp' j i:=fun i h=>by simp only[fp',if_true]at h
 have hr: ∀k,k≠j→rv' k=rv k:=fun k hk=>if_neg hk
 have hf: ∀k,k≠j→fp' k=fp k:=fun k hk=>if_neg hk
 have hlv: ∀k,k≠j→(AZ ((j, .keep φ)::Γ.ss) k↔AZ Γ.ss k):=fun k hk=>TQ hk
 have hne: ∀k,AZ Γ.ss k→k≠j:=fun k l e=>hnl (e▸l)
 have hfind: ∀k,k≠j→AG ((j, .keep φ)::Γ.ss) k=AG Γ.ss k:=fun k hk=>by simp only[AG,if_neg (Ne.symm hk)]
 have hP: ∀i,Pf E Γ.ss fp H i→Pf E ((j, .keep φ)::Γ.ss) fp' H i:=by
  rintro i (h|⟨h1,h2,h3⟩)
  ·exact .inl h
  ·refine .inr ⟨h1,h2,fun k l e=> ?_⟩
   by_cases hk:k=j
   ·subst hk;exact hfj i e
   ·rw[hf k hk]at e;exact h3 k ((hlv k hk).1 l) e
 have hsame: ∀ψ,Uv rv rv' Γ.ss ((j, .keep φ)::Γ.ss) ψ:=fun ψ k _ l=>⟨⟨(hlv k (hne k l)).2 l,fun e=>by rw[hfind k (hne k l)];exact e⟩,hr k (hne k l)⟩
 have hFR: ∀ψ w,FR rv Γ.ss (Pf E Γ.ss fp H) H ψ w→FR rv' ((j, .keep φ)::Γ.ss) (Pf E ((j, .keep φ)::Γ.ss) fp' H) H ψ w:=fun ψ w k=>k.mono (fun i hi=>⟨hP i hi,rfl⟩) (hsame ψ)
 refine⟨rv',fp',hrj,hr,⟨I.le,I.base,I.wf,?_,?_,?_,?_,?_,fun t ψ e=>hFR ψ _ (I.temps t ψ e),?_⟩,hFR⟩
 ·intro k i l e
  by_cases hk:k=j
  ·subst hk;exact absurd e (hfj i)
  ·rw[hf k hk]at e;exact I.fplt k i ((hlv k hk).1 l) e
 ·intro k l
  by_cases hk:k=j
  ·subst hk;rw[hrj];exact hv
  ·rw[hr k hk];exact I.rvlt k ((hlv k hk).1 l)
 ·intro k l
  by_cases hk:k=j
  ·subst hk;exact .inl (by simp only[AG,if_true];rfl)
  ·rw[hr k hk,hfind k hk];exact I.scal k ((hlv k hk).1 l)
 ·intro k k' i l l' e e'
  by_cases hk:k=j
  ·subst hk;exact absurd e (hfj i)
  ·by_cases hk':k'=j
   ·subst hk';exact absurd e' (hfj i)
   ·rw[hf k hk]at e
    rw[hf k' hk']at e'
    exact I.inj k k' i ((hlv k hk).1 l) ((hlv k' hk').1 l') e e'
 ·intro k S e
  by_cases hk:k=j
  ·subst hk
   simp only[AG,if_true,Option.some.injEq]at e
   subst e
   exact⟨by rw[hrj];exact hFR φ v h,hfj⟩
  ·rw[hfind k hk]at e
   exact(I.slots k S e).keep (hr k hk) (hf k hk) (fun i hi=>⟨hP i hi,rfl⟩) (Nat.le_refl _) (fun _ _=>rfl) (fun ps _ p _=>hsame p.2) (fun ψ _=>hsame ψ) fun _ _ _=>hsame _
 ·intro k ψ e
  by_cases hk:k=j
  ·subst hk;simp only[AG,if_true]at e;cases e
  ·rw[hfind k hk]at e;exact hFR ψ _ (I.gh k ψ e)
def lA:Nat→List AK→Ss→Ss
 |_,[],ss=>ss
 |j,φ::l,ss=>lA (j+1) l ((j, .keep φ)::ss)
def Ub(ss:Ss):Nat→List AK→Prop
 |_,[]=>True
 |j,_::l=>AG ss j=none∧Ub ss (j+1) l
def lH(rv:Nat→AV)(ss:Ss)(P:Nat→Prop)(H:Av):List AK→List AV→Prop
 |[],[]=>True
 |φ::l,v::r=>FR rv ss P H φ v∧lH rv ss P H l r
 |_,_=>False
theorem UF{ss:Ss}{S:CY}{k:Nat}: ∀{l:List AK} {j:Nat},k<j→Ub ss j l→Ub ((k,S)::ss) j l
 |[],_,_,_=>trivial
 |_::_,j,hk,h=>⟨by simp only[AG,if_neg (show¬k=j by omega)];exact h.1,UF (by omega) h.2⟩
theorem kZ{k:Nat}: ∀{l:List AK} {j:Nat} {ss:Ss},k<j→AG (lA j l ss) k=AG ss k
 |[],_,_,_=>rfl
 |φ::l,j,ss,hk=>by
  rw[lA,kZ (by omega)]
  simp only[AG,if_neg (show¬j=k by omega)]
theorem Bo.keepL: ∀{l:List AK} {vs:List AV} {Γ:Cx} {rv:Nat→AV} {fp:Fp} {j:Nat},Bo E Γ rv fp f H→Ub Γ.ss j l→lH rv Γ.ss (Pf E Γ.ss fp H) H l vs→(∀v∈vs,B7 v≤H.length)→
  ∃rv' fp',(List.range' j l.length).map rv'=vs∧Np (lA j l Γ.ss) (List.range' j l.length)∧(∀k,k<j→rv' k=rv k)∧Bo E ⟨Γ.ts,lA j l Γ.ss⟩ rv' fp' f H
 |[],[],Γ,rv,fp,j,I,_,_,_=>⟨rv,fp,rfl,fun _ h=>(by cases h),fun _ _=>rfl,I⟩
 |φ::l,v::vs,Γ,rv,fp,j,I,hf,hv,hm=>by
  obtain⟨rv1,fp1,h1,h2,h3,h4⟩:=I.keepNew hf.1 hv.1 (hm v List.mem_cons_self)
  have key: ∀{l:List AK} {vs:List AV},lH rv Γ.ss (Pf E Γ.ss fp H) H l vs→lH rv1 ((j, .keep φ)::Γ.ss) (Pf E ((j, .keep φ)::Γ.ss) fp1 H) H l vs:=by
   intro l
   induction l with
   |nil=>intro vs h;cases vs<;>exact h
   |cons ψ l ih=>
    intro vs h
    cases vs with
    |nil=>exact h
    |cons w vs=>exact⟨h4 ψ w h.1,ih h.2⟩
  obtain⟨rv2,fp2,g1,g2,g3,g4⟩:=Bo.keepL (l:=l) (vs:=vs) (j:=j+1) h3 (UF (by omega) hf.2) (key hv.2) (fun w hw=>hm w (List.mem_cons_of_mem _ hw))
  refine⟨rv2,fp2,?_,fun k hk=> ?_,fun k hk=>by rw[g3 k (by omega),h2 k (by omega)],g4⟩
  ·rw[List.length_cons,List.range'_succ,List.map_cons,g1,g3 j (by omega),h1]
  ·rw[List.length_cons,List.range'_succ]at hk
   rcases List.mem_cons.1 hk with rfl|hk
   ·rw[lA,kZ (by omega)];simp only[AG,if_true];rfl
   ·exact g2 k hk
inductive To(tb:CW)(Γ:Cx):List AO→List AK→Prop where
 |nil:To tb Γ [] []
 |cons {a:AO} {φ:AK} {l:List AO} {r:List AK}:C7 tb Γ a φ→To tb Γ l r→To tb Γ (a::l) (φ::r)
theorem To.spec(I:Bo E Γ rv fp f H): ∀{l:List AO} {r:List AK},To tb Γ l r→lH rv Γ.ss (Pf E Γ.ss fp H) H r (l.map (eval tb f))
 |_,_, .nil=>trivial
 |_,_, .cons h k=>⟨h E rv fp f H I,k.spec I⟩
theorem To.length: ∀{l:List AO} {r:List AK},To tb Γ l r→r.length=l.length
 |_,_, .nil=>rfl
 |_,_, .cons _ k=>by simp[k.length]
theorem To.app: ∀{l m:List AO} {r q:List AK},To tb Γ l r→To tb Γ m q→To tb Γ (l++m) (r++q)
 |_,_,_,_, .nil,k=>k
 |_,_,_,_, .cons h k,g=> .cons h (k.app g)
def VX:AK→Bool
 | .junk=>false
 |_=>true
theorem lH.men(hp: ∀i,Pf E Γ.ss fp H i→i<H.length)(hi: ∀j,AZ Γ.ss j→B7 (rv j)≤H.length): ∀{l:List AK} {vs:List AV},l.all VX=true→lH rv Γ.ss (Pf E Γ.ss fp H) H l vs→ ∀v∈vs,B7 v≤H.length
 |[],[],_,_,v,hv=>by cases hv
 |φ::l,w::vs,hj,h,v,hv=>by
  simp only[List.all_cons,Bool.and_eq_true]at hj
  rcases List.mem_cons.1 hv with rfl|hv
  ·exact FR.men hp hi (by rintro rfl;simp[VX]at hj) h.1
  ·exact lH.men hp hi hj.2 h.2 v hv
def OpN(tb:CW)(Γ:Cx)(d:Option Nat)(o:HN)(Γ':Cx):Prop:=
 ∀E rv fp f H,Bo E Γ rv fp f H→ ∃v u,Bp tb (Ch tb) (eval tb f) H o=some (v,u)∧u.getD H=H∧ ∃rv' fp',Bo E Γ' rv' fp' (put f d v) H
theorem IY{d:Nat}{fn:Fn}{xs ys:List AO}{φs ψs:List AK}(j:Nat)(hx:To tb Γ xs φs)(hy:To tb Γ ys ψs)(hn:(φs++ψs).all VX=true)(hf:Ub Γ.ss j (φs++ψs)){js ks:List Nat}(hjs:js=List.range' j φs.length)(hks:ks=List.range' (j+φs.length) ψs.length):
  OpN tb Γ (some d) (.mkf fn xs ys) ⟨(d, .fnv fn js ks)::Γ.ts,lA j (φs++ψs) Γ.ss⟩:=by
 intro E rv fp f H R
 subst hjs hks
 have hv:=(hx.app hy).spec R
 obtain⟨rv',fp',h1,h2,_,h4⟩:=R.keepL (j:=j) hf hv (lH.men R.ltP R.rvlt hn hv)
 rw[List.length_append,←List.range'_append_1]at h1 h2
 rw[List.map_append,List.map_append]at h1
 obtain⟨e1,e2⟩:=List.append_inj h1 (by simp[hx.length])
 refine⟨_,none,rfl,rfl,rv',fp',h4.push (d:=d) (φ:= .fnv fn _ _) ⟨h2,?_⟩⟩
 rw[e1,e2]
def oneS:Option CY→Bool
 |some (.row _ _)=>true
 |some (.rowk _ _)=>true
 |some (.cells _)=>true
 |some (.dom _ _)=>true
 |_=>false
def szF(ss:Ss):AK→Option Nat
 | .own j=>if oneS (AG ss j)then some 1 else none
 | .val t _=>some t.sz
 | .rp _ _=>some 1
 | .cp _ _=>some 1
 | .ep _ _ _=>some 1
 | .con _=>some 1
 | .fnv _ _ _=>some 1
 |_=>none
def Aa2:AK→Bool
 | .val t _=>t.agg
 |_=>false
theorem lV{P:Nat→Prop}{v:AV}(h:Vn P v):cellsOf v=[v]:=by
 cases v<;>simp only[Vn]at h<;>rfl
theorem RL(I:Bo E Γ rv fp f H){φ:AK}{v:AV}{n:Nat}(hs:szF Γ.ss φ=some n)(h:FR rv Γ.ss (Pf E Γ.ss fp H) H φ v):(cellsOf v).length=n∧Ho (Aa2 φ) (cellsOf v)=some v:=by
 cases φ<;>simp only[szF,Option.some.injEq,reduceCtorEq]at hs
 case own j=>
  split at hs
  ·rename_i ho
   cases hs
   obtain⟨l,rfl⟩:=h
   have hsc:=(I.scal j l).resolve_left (by
    intro hk
    cases e:AG Γ.ss j with
    |none=>rw[e]at ho;cases ho
    |some S=>rw[e]at ho hk;cases S<;>simp only[oneS,D5,Bool.false_eq_true]at ho hk)
   rw[Lj hsc];exact⟨rfl,rfl⟩
  ·cases hs
 ·subst hs
  rename_i t x
  have hc:=T.V.cells h
  refine⟨t.len hc,?_⟩
  rcases h with ⟨ha,cs,rfl,_⟩|⟨ha,hr⟩
  ·simp only[Aa2,ha];rfl
  ·have:=t.sca hr
   simp only[List.all_cons,List.all_nil,Bool.and_true]at this
   rw[Lj this]
   simp only[Aa2,ha];rfl
 ·subst hs;rw[lV h.1];exact⟨rfl,rfl⟩
 ·subst hs;obtain⟨_,id,_,rfl⟩:=h;exact⟨rfl,rfl⟩
 ·subst hs;obtain⟨_,id,m,_,_,rfl⟩:=h;exact⟨rfl,rfl⟩
 ·subst hs;obtain⟨rfl,_,hsc⟩:=h;rw[Lj hsc];exact⟨rfl,rfl⟩
 ·subst hs;obtain⟨_,rfl⟩:=h;exact⟨rfl,rfl⟩
def WC(ss:Ss):Nat→List (Nat×Nat×AO)→List AK→Option Nat
 |o,[],[]=>some o
 |o,(o',n,_)::r,φ::l=>if o'=o∧szF ss φ=some n then WC ss (o+n) r l else none
 |_,_,_=>none
theorem jL(I:Bo E Γ rv fp f H){rho:AO→AV}: ∀{ps:List (Nat×Nat×AO)} {l:List AK} {o e:Nat} {cs:List AV},WC Γ.ss o ps l=some e→e=cs.length→lH rv Γ.ss (Pf E Γ.ss fp H) H l (ps.map fun p=>rho p.2.2)→
  Mf cs rho ps=some (cs.take o++(ps.map fun p=>rho p.2.2).flatMap cellsOf)
 |[],[],o,e,cs,h,he,_=>by
  simp only[WC,Option.some.injEq]at h
  simp only[Mf,List.map_nil,List.flatMap_nil,List.append_nil]
  rw[List.take_of_length_le (by omega)]
 |(o',n,a)::ps,φ::l,o,e,cs,h,he,hv=>by
  simp only[WC]at h
  split at h
  ·rename_i hc
   obtain⟨rfl,hs⟩:=hc
   obtain⟨h1,_⟩:=RL I hs hv.1
   have hle: ∀{ps:List (Nat×Nat×AO)} {l:List AK} {o e:Nat},WC Γ.ss o ps l=some e→o≤e:=by
    intro ps
    induction ps with
    |nil=>intro l o e h;cases l<;>simp only[WC,Option.some.injEq,reduceCtorEq]at h;omega
    |cons q ps ih=>
     intro l o e h
     obtain⟨q1,q2,q3⟩:=q
     cases l with
     |nil=>simp[WC]at h
     |cons φ l=>
      simp only[WC]at h
      split at h
      ·have:=ih h;omega
      ·cases h
   have hb:=hle h
   simp only at h1
   simp only[Mf,h1]
   rw[if_pos ⟨trivial,by omega⟩]
   have hlen:(Bw cs o' (cellsOf (rho a))).length=cs.length:=Wq (by omega)
   rw[jL I h (by rw[hlen];exact he) hv.2]
   simp only[List.map_cons,List.flatMap_cons]
   have ht:(Bw cs o' (cellsOf (rho a))).take (o'+n)=cs.take o'++cellsOf (rho a):=by
    simp only[Bw]
    rw[List.take_left' (by simp only[List.length_append,List.length_take,h1];omega)]
   rw[ht,List.append_assoc]
  ·cases h
 |[],_::_,_,_,_,h,_,_=>by simp[WC]at h
 |(_,_,_)::_,[],_,_,_,h,_,_=>by simp[WC]at h
theorem GQ{d:Nat}{zero:List AV}{ps:List (Nat×Nat×AO)}{φs:List AK}(j:Nat)(hx:To tb Γ (ps.map fun p=>p.2.2) φs)(hr:WC Γ.ss 0 ps φs=some zero.length)(hn:φs.all VX=true)(hf:Ub Γ.ss j φs){js:List Nat}(hjs:js=List.range' j φs.length):
  OpN tb Γ (some d) (.bld zero ps) ⟨(d, .aggk js)::Γ.ts,lA j φs Γ.ss⟩:=by
 intro E rv fp f H R
 subst hjs
 have hv:=hx.spec R
 rw[List.map_map]at hv
 have hfill:=jL R (rho:=eval tb f) hr rfl hv
 obtain⟨rv',fp',h1,h2,_,h4⟩:=R.keepL (j:=j) hf hv (lH.men R.ltP R.rvlt hn hv)
 refine⟨.agg (zero.take 0++(ps.map fun p=>eval tb f p.2.2).flatMap cellsOf),none,by simp only[Bp,hfill,val,Option.map_some],rfl,rv',fp',h4.push (d:=d) (φ:= .aggk _) ⟨h2,?_⟩⟩
 have e:((List.range' j φs.length).flatMap fun j=>cellsOf (rv' j))=((List.range' j φs.length).map rv').flatMap cellsOf:=by rw[List.flatMap_map]
 rw[e,h1,List.take_zero,List.nil_append]
 rfl
def xN(ss:Ss):List Nat→Option Nat
 |[]=>some 0
 |j::r=>match AG ss j with
  |some (.keep φ)=>(szF ss φ).bind fun n=>(xN ss r).map (n+ ·)
  |_=>none
theorem ZA(I:Bo E Γ rv fp f H): ∀{l:List Nat} {o:Nat},xN Γ.ss l=some o→(l.flatMap fun j=>cellsOf (rv j)).length=o
 |[],o,h=>by simp only[xN,Option.some.injEq]at h;subst h;rfl
 |j::l,o,h=>by
  simp only[xN]at h
  split at h
  ·rename_i φ e
   obtain⟨n,hn,h⟩:=Option.bind_eq_some_iff.1 h
   obtain⟨m,hm,rfl⟩:=Option.map_eq_some_iff.1 h
   rw[List.flatMap_cons,List.length_append,ZA I hm,(RL I hn (I.slots j _ e).1).1]
  ·cases h
theorem Xo{l r:List Nat}{j off n:Nat}{ag:Bool}{φ:AK}(ha:C7 tb Γ a (.aggk (l++j::r)))(hl:xN Γ.ss l=some off)(hj:AG Γ.ss j=some (.keep φ))(hn:szF Γ.ss φ=some n)(hag:ag=Aa2 φ):Fw tb Γ (.fld ag off n a) (some ()) fun _=> .kv j:=by
 rintro E rv fp f H R _ ⟨⟩
 obtain⟨hk,hv⟩:=ha E rv fp f H R
 have h1:=ZA R hl
 obtain⟨h2,h3⟩:=RL R hn (R.slots j _ hj).1
 rw[List.flatMap_append,List.flatMap_cons]at hv
 subst hag
 have hsub:sub ((l.flatMap fun j=>cellsOf (rv j))++(cellsOf (rv j)++r.flatMap fun j=>cellsOf (rv j))) off n=cellsOf (rv j):=by
  simp only[sub]
  rw[List.drop_left' h1,List.take_left' h2]
 refine⟨rv j,none,?_,rfl,fun k hk'=>by rw[List.mem_singleton.1 hk',hj];rfl,rfl⟩
 simp only[Bp,hv,hsub,h3,val,Option.map_some]
 rw[if_pos (by simp only[List.length_append,h1,h2];omega)]
variable{ks:List Kf}{ρ:Type}{Q:LT ρ}
def BK{q:Bool}{d:Option Nat}{o:HN}{l:List AT}{Γ':Cx}(h:OpN tb Γ d o Γ')(k:Aa tb Γ' (rg q l) ks Q):Aa tb Γ (rg q (⟨d,none,o⟩::l)) ks Q:=
 ⟨k.m,fun E f H ⟨rv,fp,I⟩ r hr=>by
  obtain⟨v,u,h1,h2,rv',fp',h3⟩:=h E rv fp f H I
  obtain⟨e,f',H',h4,h5⟩:=k.ok E _ _ ⟨rv',fp',h3⟩ r hr
  exact⟨e,f',H',by rw[E6 h1 h2];exact h4,h5⟩⟩
end
end Go.Proofs.YtobejhpigbllpaaGreatDoor.Am
namespace Go.Proofs.YtobejhpigbllpaaGreatDoor.Am
inductive Yi where
 |o (a:AO)
 |k (j:Nat)
def fC(tb:CW)(f:Fr)(rv:Nat→AV):Yi→AV
 | .o a=>eval tb f a
 | .k j=>rv j
def OpS(tb:CW)(Γ:Cx)(s:Yi)(φ:AK):Prop:= ∀E rv fp f H,Bo E Γ rv fp f H→FR rv Γ.ss (Pf E Γ.ss fp H) H φ (fC tb f rv s)
inductive Zg(tb:CW)(Γ:Cx):List Yi→List AK→Prop where
 |nil:Zg tb Γ [] []
 |cons {s:Yi} {φ:AK} {l:List Yi} {r:List AK}:OpS tb Γ s φ→Zg tb Γ l r→Zg tb Γ (s::l) (φ::r)
def Tr(tb:CW)(Γ:Cx)(o:HN)(g:Nat)(l:List Yi):Prop:=
 ∀E rv fp f H,Bo E Γ rv fp f H→Bp tb (Ch tb) (eval tb f) H o=B1 tb (Ch tb) H g (l.map (fC tb f rv))
section
variable{tb:CW}{Γ:Cx}{a b:AO}{E:Ph}{rv:Nat→AV}{fp:Fp}{f:Fr}{H:Av}
theorem NG{φ:AK}(h:C7 tb Γ a φ):OpS tb Γ (.o a) φ:=h
theorem s_k{j:Nat}{φ:AK}(hj:AG Γ.ss j=some (.keep φ)):OpS tb Γ (.k j) φ:=fun _ _ _ _ _ I=>(I.slots j _ hj).1
theorem FG{g:Nat}{xs:List AO}{l:List Yi}(hl:l=xs.map .o):Tr tb Γ (.call g xs) g l:=by
 intro E rv fp f H I
 subst hl
 simp only[Bp,List.map_map];rfl
theorem G6{g:Nat}{x:AO}{xs:List AO}{js ks:List Nat}{l:List Yi}(ha:C7 tb Γ x (.fnv (.func g) js ks))(hl:l=js.map .k++xs.map .o++ks.map .k):Tr tb Γ (.callv x xs) g l:=by
 intro E rv fp f H I
 subst hl
 simp only[Bp,(ha E rv fp f H I).2,List.map_append,List.map_map];rfl
theorem Zg.spec(I:Bo E Γ rv fp f H): ∀{l:List Yi} {r:List AK},Zg tb Γ l r→lH rv Γ.ss (Pf E Γ.ss fp H) H r (l.map (fC tb f rv))
 |_,_, .nil=>trivial
 |_,_, .cons h k=>⟨h E rv fp f H I,k.spec I⟩
def Uq:Nat→List AK→Ts
 |_,[]=>[]
 |k,φ::r=>(k,φ)::Uq (k+1) r
def Kc(vs:List AV)(k:Nat):Fr:=(vs.zipIdx k).map fun p=>(p.2,p.1)
theorem Th{P:Nat→Prop}{ss:Ss}: ∀{r:List AK} {vs:List AV} {k:Nat},lH rv ss P H r vs→ ∀t φ,BB (Uq k r) t=some φ→k≤t∧FR rv ss P H φ (get (Kc vs k) t)
 |[],[],_,_,t,φ,e=>by simp[Uq,BB]at e
 |ψ::r,v::vs,k,h,t,φ,e=>by
  simp only[Uq,BB]at e
  simp only[Kc,List.zipIdx_cons,List.map_cons,get]
  split at e
  ·rename_i hk
   cases e
   subst hk
   exact⟨Nat.le_refl _,by rw[if_pos rfl];exact h.1⟩
  ·rename_i hk
   obtain⟨h1,h2⟩:=Th (k:=k+1) h.2 t φ e
   exact⟨by omega,by rw[if_neg hk];exact h2⟩
def F4(J:Nat):Ts→Ss→Ss
 |[],ss=>ss
 |(t,φ)::r,ss=>(J+t, .ghost φ)::F4 J r ss
def Oc(Γ:Cx)(J:Nat):Ts→Prop
 |[]=>True
 |(t,φ)::r=>(BB Γ.ts t=some φ∧AG Γ.ss (J+t)=none)∧Oc Γ J r
def Il(J:Nat):Ss→Bool
 |[]=>true
 |(j, .ghost _)::r=>Nat.blt j J&&Il J r
 |_::r=>Il J r
theorem Od{J:Nat}: ∀{ss:Ss} {j:Nat} {φ:AK},Il J ss=true→AG ss j=some (.ghost φ)→j<J
 |[],_,_,_,e=>by simp[AG]at e
 |(u,S)::r,j,φ,h,e=>by
  simp only[AG]at e
  split at e
  ·rename_i hu
   cases e
   simp only[Il,Bool.and_eq_true]at h
   have:=h.1
   rw[Tf]at this
   omega
  ·refine Od (ss:=r) ?_ e
   cases S<;>simp only[Il,Bool.and_eq_true]at h<;>first|exact h.2|exact h
theorem K3{J:Nat}{ss:Ss}: ∀{l:Ts} {j:Nat},AG (F4 J l ss) j=AG ss j∨ ∃t φ,j=J+t∧BB l t=some φ∧AG (F4 J l ss) j=some (.ghost φ)
 |[],_=> .inl rfl
 |(t,φ)::r,j=>by
  simp only[F4,AG]
  by_cases hj:J+t=j
  ·rw[if_pos hj]
   exact .inr ⟨t,φ,hj.symm,by simp[BB],rfl⟩
  ·rw[if_neg hj]
   rcases K3 (J:=J) (ss:=ss) (l:=r) (j:=j)with h|⟨t',φ',h1,h2,h3⟩
   ·exact .inl h
   ·refine .inr ⟨t',φ',h1,?_,h3⟩
    simp only[BB]
    rw[if_neg (fun e=>hj (by rw[h1,e]))]
    exact h2
theorem Lc{J:Nat}: ∀{l:Ts} {t:Nat} {φ:AK},Oc Γ J l→BB l t=some φ→BB Γ.ts t=some φ∧AG Γ.ss (J+t)=none
 |[],_,_,_,e=>by simp[BB]at e
 |(u,ψ)::r,t,φ,h,e=>by
  simp only[BB]at e
  split at e
  ·rename_i hu
   cases e
   subst hu
   exact h.1
  ·exact Lc h.2 e
theorem Bo.enter(I:Bo E Γ rv fp f H){J:Nat}{L:Ts}{srcs:List Yi}{φs:List AK}(hL:Oc Γ J L)(hg:Il J Γ.ss=true)(ha:Zg tb Γ srcs φs):
  Bo {E with g:=fun j=>if J≤j then get f (j-J)else E.g j} ⟨Uq 0 φs,F4 J L Γ.ss⟩ rv fp (Kc (srcs.map (fC tb f rv)) 0) H:=by
 have hlv: ∀k,AZ (F4 J L Γ.ss) k↔AZ Γ.ss k:=by
  intro k
  rcases K3 (J:=J) (ss:=Γ.ss) (l:=L) (j:=k)with h|⟨t,φ,rfl,h2,h3⟩
  ·simp only[AZ,h]
  ·have:=(Lc hL h2).2
   simp only[AZ,h3,this,xV]
 have hkeep: ∀k,D5 (AG (F4 J L Γ.ss) k)=D5 (AG Γ.ss k):=by
  intro k
  rcases K3 (J:=J) (ss:=Γ.ss) (l:=L) (j:=k)with h|⟨t,φ,rfl,h2,h3⟩
  ·rw[h]
  ·rw[h3,(Lc hL h2).2];rfl
 have hP: ∀i,Pf E Γ.ss fp H i→Pf E (F4 J L Γ.ss) fp H i:=fun i=>Pf.same fun k l=>(hlv k).1 l
 have hFR: ∀φ v,FR rv Γ.ss (Pf E Γ.ss fp H) H φ v→FR rv (F4 J L Γ.ss) (Pf E (F4 J L Γ.ss) fp H) H φ v:=fun φ v h=>
  h.mono (fun i hi=>⟨hP i hi,rfl⟩) fun k _ l=>⟨⟨(hlv k).2 l,fun e=>by rw[hkeep];exact e⟩,rfl⟩
 have hFRs: ∀{l:List AK} {vs:List AV},lH rv Γ.ss (Pf E Γ.ss fp H) H l vs→lH rv (F4 J L Γ.ss) (Pf E (F4 J L Γ.ss) fp H) H l vs:=by
  intro l
  induction l with
  |nil=>intro vs h;cases vs<;>exact h
  |cons φ l ih=>
   intro vs h
   cases vs with
   |nil=>exact h
   |cons v vs=>exact⟨hFR φ v h.1,ih h.2⟩
 refine⟨I.le,I.base,I.wf,fun j i l e=>I.fplt j i ((hlv j).1 l) e,fun j l=>I.rvlt j ((hlv j).1 l),fun j l=>(I.scal j ((hlv j).1 l)).imp (fun e=>by rw[hkeep];exact e) id,fun j k i l l'=>I.inj j k i ((hlv j).1 l) ((hlv k).1 l'),?_,?_,?_⟩
 ·intro j S e
  rcases K3 (J:=J) (ss:=Γ.ss) (l:=L) (j:=j)with h|⟨t,φ,rfl,h2,h3⟩
  ·replace e:AG (F4 J L Γ.ss) j=some S:=e
   rw[h]at e
   exact(I.slots j S e).keep rfl rfl (fun i hi=>⟨hP i hi,rfl⟩) (Nat.le_refl _) (fun _ _=>rfl) (fun _ _ _ _ k _ l=>⟨⟨(hlv k).2 l,fun e=>by rw[hkeep];exact e⟩,rfl⟩) (fun _ _ k _ l=>⟨⟨(hlv k).2 l,fun e=>by rw[hkeep];exact e⟩,rfl⟩) (fun _ _ _ k _ l=>⟨⟨(hlv k).2 l,fun e=>by rw[hkeep];exact e⟩,rfl⟩)
  ·replace e:AG (F4 J L Γ.ss) (J+t)=some S:=e
   rw[h3]at e;cases e;trivial
 ·intro t φ e
  exact(Th (hFRs (ha.spec I)) t φ e).2
 ·intro j φ e
  show FR rv (F4 J L Γ.ss) _ H φ (if J≤j then get f (j-J)else E.g j)
  rcases K3 (J:=J) (ss:=Γ.ss) (l:=L) (j:=j)with h|⟨t,ψ,rfl,h2,h3⟩
  ·replace e:AG (F4 J L Γ.ss) j=some (.ghost φ):=e
   rw[h]at e
   have:=Od hg e
   rw[if_neg (by omega)]
   exact hFR φ _ (I.gh j φ e)
  ·replace e:AG (F4 J L Γ.ss) (J+t)=some (.ghost φ):=e
   rw[h3]at e
   cases e
   rw[if_pos (by omega),show J+t-J=t by omega]
   exact hFR _ _ (I.temps t _ (Lc hL h2).1)
def QIn{τ:Type}(res:List KR)(Γr:τ→Cx):LT τ:=fun E p e f H=>
 (e= .ret∨e= .normal)∧ ∃vs,results f H res=some vs∧Rel E (Γr p) (Kc vs 0) H
def ResG(Γ:Cx)(a:KR)(φ:AK):Prop:= ∀E rv fp f H,Bo E Γ rv fp f H→ ∀r vs,results f H r=some vs→ ∃v,results f H (a::r)=some (v::vs)∧FR rv Γ.ss (Pf E Γ.ss fp H) H φ v
inductive oJ(Γ:Cx):List KR→List AK→Prop where
 |nil:oJ Γ [] []
 |cons {a:KR} {φ:AK} {l:List KR} {r:List AK}:ResG Γ a φ→oJ Γ l r→oJ Γ (a::l) (φ::r)
theorem oJ.spec(I:Bo E Γ rv fp f H): ∀{l:List KR} {r:List AK},oJ Γ l r→ ∃vs,results f H l=some vs∧lH rv Γ.ss (Pf E Γ.ss fp H) H r vs
 |_,_, .nil=>⟨[],rfl,trivial⟩
 |_,_, .cons h k=>by
  obtain⟨vs,e,g⟩:=k.spec I
  obtain⟨v,e',g'⟩:=h E rv fp f H I _ vs e
  exact⟨v::vs,e',g',g⟩
theorem rg_t{n:Nat}{φ:AK}(h:BB Γ.ts n=some φ):ResG Γ (.tmp n) φ:=fun _ _ _ _ _ I r vs hr=>⟨_,by simp only[results,hr,Option.map_some],I.temps n _ h⟩
variable{ks:List Kf}{ρ τ:Type}{Q:LT ρ}
def Bk{res:List KR}{Γr:τ→Cx}{φs:List AK}(p:τ)(h:oJ Γ res φs)(hs:Sub (Γr p) ⟨Uq 0 φs,Γ.ss⟩):Aa tb Γ .ret ks (QIn res Γr):=
 Yd ⟨some p,fun E f H ⟨rv,fp,I⟩ r hr=>by
  cases hr
  obtain⟨vs,e,g⟩:=h.spec I
  refine⟨.ret,f,H,by simp[AW,I4], .inl rfl,vs,e,rv,fp,Bo.sub (Γ:=⟨Uq 0 φs,Γ.ss⟩) ?_ hs⟩
  exact⟨I.le,I.base,I.wf,I.fplt,I.rvlt,I.scal,I.inj,I.slots,fun t φ e=>(Th g t φ e).2,I.gh⟩⟩
def aI{q:Bool}{res:List KR}{Γr:τ→Cx}{φs:List AK}(p:τ)(h:oJ Γ res φs)(hs:Sub (Γr p) ⟨Uq 0 φs,Γ.ss⟩):Aa tb Γ (rg q []) [] (QIn res Γr):=
 ⟨some p,fun E f H ⟨rv,fp,I⟩ r hr=>by
  cases hr
  obtain⟨vs,e,g⟩:=h.spec I
  refine⟨.normal,f,H,by simp[Dv,I4], .inr rfl,vs,e,rv,fp,Bo.sub (Γ:=⟨Uq 0 φs,Γ.ss⟩) ?_ hs⟩
  exact⟨I.le,I.base,I.wf,I.fplt,I.rvlt,I.scal,I.inj,I.slots,fun t φ e=>(Th g t φ e).2,I.gh⟩⟩
inductive Tt(tsr:Ts):Nat→AK→Prop where
 |none:Tt tsr 0 (.tup [])
 |one {φ:AK}:BB tsr 0=some φ→Tt tsr 1 φ
 |vals {n:Nat} {l:List (Σ t:T,t.α)} (hn:l.length=n+2) (h: ∀(i:Nat) (p: Σ t:T,t.α),l[i]? =some p→BB tsr i=some (.val p.1 p.2)):Tt tsr (n+2) (.tup l)
 |kvs {n:Nat} {js:List Nat} (hn:js.length=n+2) (h: ∀i j,js[i]? =some j→BB tsr i=some (.kv j)):Tt tsr (n+2) (.tupk js)
 |junk {n:Nat}:Tt tsr n .junk
theorem PF{vs:List AV}{i:Nat}{v:AV}(h:vs[i]? =some v):get (Kc vs 0) i=v:=by
 have key: ∀(vs:List AV) (k i:Nat) (v:AV),vs[i]? =some v→get (Kc vs k) (k+i)=v:=by
  intro vs
  induction vs with
  |nil=>intro k i v h;simp at h
  |cons w vs ih=>
   intro k i v h
   simp only[Kc,List.zipIdx_cons,List.map_cons,get]
   cases i with
   |zero=>simp only[List.getElem?_cons_zero,Option.some.injEq]at h;rw[if_pos (by omega)];exact h
   |succ i=>
    rw[if_neg (by omega)]
    have:=ih (k+1) i v (by simpa using h)
    rw[show k+(i+1)=k+1+i by omega]
    exact this
 have:=key vs 0 i v h
 rwa [Nat.zero_add]at this
theorem Tt.spec{Γr:Cx}{n:Nat}{φ:AK}{vs:List AV}(I:Bo E Γr rv fp (Kc vs 0) H)(hn:vs.length=n)(h:Tt Γr.ts n φ):FR rv Γr.ss (Pf E Γr.ss fp H) H φ (Gp vs):=by
 cases h with
 |none=>
  have:vs=[]:=List.eq_nil_of_length_eq_zero hn
  subst this
  exact⟨[],rfl,trivial⟩
 |one h=>
  match vs,hn with
  |[v],_=>
   have:=I.temps 0 _ h
   rw[PF (i:=0) (v:=v) rfl]at this
   exact this
 | @vals m l hl h=>
  have hp:Gp vs= .tup vs:=by
   match vs,hn with
   |_::_::_,_=>rfl
  rw[hp]
  refine⟨vs,rfl,?_⟩
  have key: ∀(vs:List AV) (l:List (Σ t:T,t.α)),vs.length=l.length→(∀(i:Nat) (v:AV) (p: Σ t:T,t.α),vs[i]? =some v→l[i]? =some p→p.1.V (Pf E Γr.ss fp H) H v p.2)→VL (Pf E Γr.ss fp H) H vs l:=by
   intro vs
   induction vs with
   |nil=>intro l h _;cases l<;>first|trivial|simp at h
   |cons v vs ih=>
    intro l h g
    cases l with
    |nil=>simp at h
    |cons p l=>exact⟨g 0 v p rfl rfl,ih l (by simpa using h) fun i w q a b=>g (i+1) w q (by simpa using a) (by simpa using b)⟩
  refine key vs l (by omega) fun i v p a b=> ?_
  have:=I.temps i _ (h i p b)
  rw[PF a]at this
  exact this
 | @kvs m js hl h=>
  have hp:Gp vs= .tup vs:=by
   match vs,hn with
   |_::_::_,_=>rfl
  rw[hp]
  have hv:vs=js.map rv:=by
   apply List.ext_getElem?
   intro i
   rcases Nat.lt_or_ge i vs.length with hi|hi
   ·have hj:i<js.length:=by omega
    have:=(I.temps i _ (h i js[i] (List.getElem?_eq_getElem hj))).2
    rw[PF (List.getElem?_eq_getElem hi)]at this
    rw[List.getElem?_eq_getElem hi,List.getElem?_map,List.getElem?_eq_getElem hj,this];rfl
   ·rw[List.getElem?_eq_none hi,List.getElem?_eq_none (by rw[List.length_map];omega)]
  refine⟨fun j hj=> ?_,by rw[hv]⟩
  obtain⟨i,hi,rfl⟩:=List.mem_iff_getElem.1 hj
  exact(I.temps i _ (h i _ (List.getElem?_eq_getElem hi))).1 _ (by simp)
 |junk=>trivial
def ZZ(Γr:Cx)(ss:Ss)(J:Nat):Ts→Prop
 |[]=>True
 |(t,φ)::r=>(AG Γr.ss (J+t)=some (.ghost φ)∧LX ss φ)∧ZZ Γr ss J r
structure Cg(Γr Γk:Cx)(J:Nat)(d:Option Nat)(n:Nat):Prop where
 ss:uP Γr Γk.ss Γk.ss
 gl:Il J Γk.ss=true
 ts:match d with
  |none=>ZZ Γr Γk.ss J Γk.ts
  |some d=> ∃φ r,Γk.ts=(d,φ)::r∧Tt Γr.ts n φ∧LX Γk.ss φ∧ZZ Γr Γk.ss J r
theorem AY{Γr:Cx}{ss:Ss}{J d n:Nat}{φ:AK}{r:Ts}(h1:uP Γr ss ss)(h2:Il J ss=true)(h3:Tt Γr.ts n φ)(h4:LX ss φ)(h5:ZZ Γr ss J r):Cg Γr ⟨(d,φ)::r,ss⟩ J (some d) n:=⟨h1,h2,φ,r,rfl,h3,h4,h5⟩
theorem XV{Γr:Cx}{ss:Ss}{J:Nat}: ∀{l:Ts} {t:Nat} {φ:AK},ZZ Γr ss J l→BB l t=some φ→AG Γr.ss (J+t)=some (.ghost φ)∧LX ss φ
 |[],_,_,_,e=>by simp[BB]at e
 |(u,ψ)::r,t,φ,h,e=>by
  simp only[BB]at e
  split at e
  ·rename_i hu;cases e;subst hu;exact h.1
  ·exact XV h.2 e
theorem Bo.back{Γr Γk:Cx}{J n:Nat}{d:Option Nat}{vs:List AV}{f:Fr}(I:Bo {E with g:=fun j=>if J≤j then get f (j-J)else E.g j} Γr rv fp (Kc vs 0) H)(hn:vs.length=n)(hb:Cg Γr Γk J d n):
  Bo E Γk rv fp (put f d (Gp vs)) H:=by
 have S:Sub ⟨[],Γk.ss⟩ Γr:=⟨trivial,hb.ss⟩
 have I0:=I.sub S
 have hlv: ∀k,AZ Γk.ss k→AZ Γr.ss k:=by
  intro k l
  cases e:AG Γk.ss k with
  |none=>simp only[AZ,e]at l;exact l.elim
  |some S=>
   have:=(IE hb.ss e).1
   simp only[AZ,e]at l
   simp only[AZ,this];exact l
 have hP: ∀i,Pf E Γr.ss fp H i→Pf E Γk.ss fp H i:=fun i=>Pf.same hlv
 have hsame: ∀φ,LX Γk.ss φ→Uv rv rv Γr.ss Γk.ss φ:=fun φ r j hj l=>by
  have hl:=(WJ r j hj).1
  refine⟨⟨hl,fun e=> ?_⟩,rfl⟩
  cases e':AG Γk.ss j with
  |none=>simp only[AZ,e']at hl;exact hl.elim
  |some S=>rw[(IE hb.ss e').1]at e;exact e
 have hFR: ∀φ v,LX Γk.ss φ→FR rv Γr.ss (Pf E Γr.ss fp H) H φ v→FR rv Γk.ss (Pf E Γk.ss fp H) H φ v:=fun φ v r h=>h.mono (fun i hi=>⟨hP i hi,rfl⟩) (hsame φ r)
 have hback: ∀{l:Ts},ZZ Γr Γk.ss J l→ ∀t φ,BB l t=some φ→FR rv Γk.ss (Pf E Γk.ss fp H) H φ (get f t):=by
  intro l hl t φ e
  obtain⟨h1,h2⟩:=XV hl e
  have:=I.gh _ _ h1
  simp only[if_pos (show J≤J+t by omega),show J+t-J=t by omega]at this
  exact hFR φ _ h2 this
 refine⟨I0.le,I0.base,I0.wf,I0.fplt,I0.rvlt,I0.scal,I0.inj,I0.slots,?_,?_⟩
 ·intro t φ e
  have hts:=hb.ts
  cases d with
  |none=>exact hback hts t φ e
  |some d=>
   obtain⟨ψ,r,hr,h1,h2,h3⟩:=hts
   rw[hr]at e
   simp only[BB]at e
   simp only[put,get]
   split at e
   ·rename_i hd
    cases e
    rw[if_pos hd]
    have h1':=h1.spec I hn
    exact hFR _ _ h2 h1'
   ·rename_i hd
    rw[if_neg hd]
    exact hback h3 t φ e
 ·intro j φ e
  have h1:=Od hb.gl e
  have:=I0.gh j φ e
  simp only[if_neg (show¬J≤j by omega)]at this
  exact this
structure oM(tb:CW){τ:Type}(Γk:τ→Cx)(c:AC)(ks:List Kf){ρ:Type}(Q:LT ρ) where
 m:τ→Option ρ
 ok: ∀p E f H,Rel E (Γk p) f H→ ∀r,m p=some r→ ∃e f' H',(AW tb (Ch tb) c f H).bind (I4 tb ks)=some (e,f',H')∧Q E r e f' H'
def oM.one{Γk:τ→Cx}{c:AC}(k:(p:τ)→Aa tb (Γk p) c ks Q):oM tb Γk c ks Q:=⟨fun p=>(k p).m,fun p=>(k p).ok⟩
def oM.alt{σ:Type}{Γ1:τ→Cx}{Γ2:σ→Cx}{c:AC}(k1:oM tb Γ1 c ks Q)(k2:oM tb Γ2 c ks Q):oM tb (Sum.elim Γ1 Γ2) c ks Q:=
 ⟨Sum.elim k1.m k2.m,fun p=>match p with
  | .inl p=>k1.ok p
  | .inr p=>k2.ok p⟩
theorem M8{σ:Type}{Γ1 Δ1:τ→Cx}{Γ2 Δ2:σ→Cx}{J n:Nat}{d:Option Nat}(h1: ∀p,Cg (Γ1 p) (Δ1 p) J d n)(h2: ∀p,Cg (Γ2 p) (Δ2 p) J d n): ∀p,Cg (Sum.elim Γ1 Γ2 p) (Sum.elim Δ1 Δ2 p) J d n
 | .inl p=>h1 p
 | .inr p=>h2 p
theorem Ps: ∀{l:List KR} {vs:List AV},results f H l=some vs→vs.length=l.length
 |[],vs,h=>by simp only[results,Option.some.injEq]at h;subst h;rfl
 | .tmp t::r,vs,h=>by
  simp only[results]at h
  obtain⟨v,hv,rfl⟩:=Option.map_eq_some_iff.1 h
  simp[Ps hv]
 | .cell ag n t::r,vs,h=>by
  simp only[results]at h
  obtain⟨w,hw,h⟩:=Option.bind_eq_some_iff.1 h
  obtain⟨v,hv,rfl⟩:=Option.map_eq_some_iff.1 h
  simp[Ps hv]
theorem yH{g:Nat}{fn:CI}{o:HN}{d:Option Nat}{srcs:List Yi}{φs:List AK}{J n:Nat}{L:Ts}{Γr Γk:τ→Cx}(hf:tb.prim g=none∧tb.fns g=some fn)(hw:fn.warm=true)(hnp:fn.np=srcs.length)(hn:n=fn.res.length)
  (hc:Tr tb Γ o g srcs) (ha:Zg tb Γ srcs φs) (hL:Oc Γ J L) (hg:Il J Γ.ss=true) (s:Aa tb ⟨Uq 0 φs,F4 J L Γ.ss⟩ fn.body [] (QIn fn.res Γr)) (hb: ∀p,Cg (Γr p) (Γk p) J d n) (I:Bo E Γ rv fp f H) {p:τ} (hp:s.m=some p):
  ∃v H',Bp tb (Ch tb) (eval tb f) H o=some (v,some H')∧Rel E (Γk p) (put f d v) H':=by
 have R:=I.enter (tb:=tb) hL hg ha
 obtain⟨e,f',H',h1,h2,vs,h3,rv',fp',h4⟩:=s.ok _ _ _ ⟨_,_,R⟩ p hp
 have h1':AW tb (Ch tb) fn.body (Kc (srcs.map (fC tb f rv)) 0) H=some (e,f',H'):=by
  obtain⟨q,hq,h1⟩:=Option.bind_eq_some_iff.1 h1
  rw[hq,←h1];rfl
 have hbody:body tb (Ch tb) fn (srcs.map (fC tb f rv)) H=some (Gp vs,some H'):=by
  have:=OE (tb:=tb) (h:=H) (fn:=fn) (args:=srcs.map (fC tb f rv)) (by rw[List.length_map,hnp]) rfl h1' h2 h3
  rw[this,hw];rfl
 refine⟨Gp vs,H',?_,rv',fp',h4.back (by rw[hn];exact Ps h3) (hb p)⟩
 rw[hc E rv fp f H I]
 simp only[B1,hf.1]
 rw[PI,hf.2]
 exact hbody
def Aa.inl{g:Nat}{fn:CI}{o:HN}{d:Option Nat}{rest:List AT}{srcs:List Yi}{φs:List AK}{n:Nat}{L:Ts}{Γr:τ→Cx}(J:Nat)(Γk:τ→Cx)(hf:tb.prim g=none∧tb.fns g=some fn)(hw:fn.warm=true)(hnp:fn.np=srcs.length)(hn:n=fn.res.length)
  (hc:Tr tb Γ o g srcs) (ha:Zg tb Γ srcs φs) (hL:Oc Γ J L) (hg:Il J Γ.ss=true) (s:Aa tb ⟨Uq 0 φs,F4 J L Γ.ss⟩ fn.body [] (QIn fn.res Γr)) (hb: ∀p,Cg (Γr p) (Γk p) J d n) (k:oM tb Γk (rg false rest) ks Q):Aa tb Γ (rg false (⟨d,none,o⟩::rest)) ks Q:=
 ⟨s.m.bind k.m,fun E f H ⟨rv,fp,I⟩ r hr=>by
  obtain⟨p,hp,hr⟩:=Option.bind_eq_some_iff.1 hr
  obtain⟨v,H',h1,h2⟩:=yH hf hw hnp hn hc ha hL hg s hb I hp
  obtain⟨e,f',H2,h4,h5⟩:=k.ok p E _ _ h2 r hr
  exact⟨e,f',H2,by rw[Kd h1];exact h4,h5⟩⟩
def A9.inl{g:Nat}{fn:CI}{o:HN}{d:Option Nat}{rest:List AT}{w:List (Option (Nat×Nat))}{N k:Nat}{B:List Ob}{C C':List Cb}{srcs:List Yi}{φs:List AK}{n:Nat}{L:Ts}{Γr:τ→Cx}(hq:kU B C' d=true)(hcn:JX Γ k C C')(J:Nat)(Γk:τ→Cx)(hO: ∀p,VM tb (Γk p) B)(hf:tb.prim g=none∧tb.fns g=some fn)(hw:fn.warm=true)(hnp:fn.np=srcs.length)(hn:n=fn.res.length)
  (hc:Tr tb Γ o g srcs) (ha:Zg tb Γ srcs φs) (hL:Oc Γ J L) (hg:Il J Γ.ss=true) (s:Aa tb ⟨Uq 0 φs,F4 J L Γ.ss⟩ fn.body [] (QIn fn.res Γr)) (hb: ∀p,Cg (Γr p) (Γk p) J d n) (t:(p:τ)→A9 tb (Γk p) N (k+1) (eB B) C' rest w ks Q):A9 tb Γ N k B C (⟨d,none,o⟩::rest) (none::w) ks Q:=
 DC hq hO hcn (a:=s.m) (Γ':=Γk) (fun E rv fp f H I p hp=>by
  obtain⟨v,H',h1,rv',fp',h2⟩:=yH hf hw hnp hn hc ha hL hg s hb I hp
  exact⟨v,some H',h1,rv',fp',h2⟩) t
structure Yf(tb:CW){τ:Type}(Γk:τ→Cx)(N k:Nat)(B:List Ob)(C:List Cb)(l:List AT)(w:List (Option (Nat×Nat)))(ks:List Kf){ρ:Type}(Q:LT ρ) where
 m:τ→Option ρ
 ok: ∀p E f H,Rel E (Γk p) f H→ ∀ms,lG f B ms→ ∀es,CR f C es→ ∀r,m p=some r→ ∃q e f' H',Gq tb (Ch tb) N k ms es l w f H q∧I4 tb ks (.normal,q.1,q.2)=some (e,f',H')∧Q E r e f' H'
def Yf.one{Γk:τ→Cx}{N k:Nat}{B:List Ob}{C:List Cb}{l:List AT}{w:List (Option (Nat×Nat))}(t:(p:τ)→A9 tb (Γk p) N k B C l w ks Q):Yf tb Γk N k B C l w ks Q:=⟨fun p=>(t p).m,fun p=>(t p).ok⟩
def Yf.alt{σ:Type}{Γ1:τ→Cx}{Γ2:σ→Cx}{N k:Nat}{B:List Ob}{C:List Cb}{l:List AT}{w:List (Option (Nat×Nat))}(k1:Yf tb Γ1 N k B C l w ks Q)(k2:Yf tb Γ2 N k B C l w ks Q):Yf tb (Sum.elim Γ1 Γ2) N k B C l w ks Q:=
 ⟨Sum.elim k1.m k2.m,fun p=>match p with
  | .inl p=>k1.ok p
  | .inr p=>k2.ok p⟩
def uF{g:Nat}{fn:CI}{o:HN}{d:Option Nat}{rest:List AT}{w:List (Option (Nat×Nat))}{N k:Nat}{B:List Ob}{C C':List Cb}{srcs:List Yi}{φs:List AK}{n:Nat}{L:Ts}{Γr:τ→Cx}(hq:kU B C' d=true)(hcn:JX Γ k C C')(J:Nat)(Γk:τ→Cx)(hO: ∀p,VM tb (Γk p) B)(hf:tb.prim g=none∧tb.fns g=some fn)(hw:fn.warm=true)(hnp:fn.np=srcs.length)(hn:n=fn.res.length)
  (hc:Tr tb Γ o g srcs) (ha:Zg tb Γ srcs φs) (hL:Oc Γ J L) (hg:Il J Γ.ss=true) (s:Aa tb ⟨Uq 0 φs,F4 J L Γ.ss⟩ fn.body [] (QIn fn.res Γr)) (hb: ∀p,Cg (Γr p) (Γk p) J d n) (t:Yf tb Γk N (k+1) (eB B) C' rest w ks Q):A9 tb Γ N k B C (⟨d,none,o⟩::rest) (none::w) ks Q:=
 ⟨s.m.bind t.m,(A9.inl hq hcn J Γk hO hf hw hnp hn hc ha hL hg s hb fun p=>⟨t.m p,t.ok p⟩).ok⟩
inductive eO(tb:CW)(Γ:Cx):(As:List T)→List Yi→BS As→Prop where
 |nil:eO tb Γ [] [] ()
 |one {t:T} {s:Yi} {x:t.α}:OpS tb Γ s (.val t x)→eO tb Γ [t] [s] x
 |cons {t u:T} {As:List T} {s:Yi} {l:List Yi} {x:t.α} {y:BS (u::As)}:OpS tb Γ s (.val t x)→eO tb Γ (u::As) l y→eO tb Γ (t::u::As) (s::l) (x,y)
theorem eO.spec(R:Bo E Γ rv fp f H): ∀{As:List T} {l:List Yi} {x:BS As},eO tb Γ As l x→UY (Pf E Γ.ss fp H) H As (l.map (fC tb f rv)) x
 |_,_,_, .nil=>rfl
 |_,_,_, .one h=>⟨_,rfl,h E rv fp f H R⟩
 |_,_,_, .cons h k=>⟨_,_,rfl,h E rv fp f H R,k.spec R⟩
theorem pV{g:Nat}{As Rs:List T}{F:BS As→Option (BS Rs)}{o:HN}{l:List Yi}{x:BS As}(sp:Spec tb g As Rs F)(hc:Tr tb Γ o g l)(hx:eO tb Γ As l x):Fw tb Γ o (F x) fun r=>vY Rs r:=by
 intro E rv fp f H R r hr
 obtain⟨v,u,h1,h2,h3⟩:=(sp (Pf E Γ.ss fp H) H _ x R.ltP R.wf (hx.spec R) r hr).call
 exact⟨v,u,by rw[hc E rv fp f H R];exact h1,h2,WQ h3⟩
theorem PC{g:Nat}{As:List T}{t:T}{F:BS As→Option (BS [t])}{o:HN}{l:List Yi}{x:BS As}(sp:Spec tb g As [t] F)(hc:Tr tb Γ o g l)(hx:eO tb Γ As l x):Fw tb Γ o (F x) fun r:t.α=> .val t r:=pV sp hc hx
theorem K2{g:Nat}{As:List T}{t u:T}{Rs:List T}{F:BS As→Option (BS (t::u::Rs))}{o:HN}{l:List Yi}{x:BS As}(sp:Spec tb g As (t::u::Rs) F)(hc:Tr tb Γ o g l)(hx:eO tb Γ As l x):Fw tb Γ o (F x) fun r=> .tup (rB (t::u::Rs) r):=pV sp hc hx
end
end Go.Proofs.YtobejhpigbllpaaGreatDoor.Am
namespace Go.Proofs.YtobejhpigbllpaaGreatDoor.Am
section
variable{tb:CW}{Γ:Cx}{a b:AO}{E:Ph}{rv:Nat→AV}{fp:Fp}{f:Fr}{H:Av}{ks:List Kf}{ρ:Type}{Q:LT ρ}
end
end Go.Proofs.YtobejhpigbllpaaGreatDoor.Am
