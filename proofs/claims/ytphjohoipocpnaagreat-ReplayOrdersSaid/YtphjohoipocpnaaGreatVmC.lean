import Derived.Test.YtphjohoipocpnaaGreatVmB
import Derived.Test.YtphjohoipocpnaaGreatWpC
set_option linter.unusedVariables false
set_option linter.unusedSimpArgs false
/- The operations in depth as a walk meets them. -/
namespace Go.Am.Vm
open Go.Am
variable {T:Tab} {P P':Nat→Prop} {H H':Heap} {μ μ':List Hd} {ds es cs:List D} {vs ws us:List V} {F G X K F' X':List Nat} {d:D} {v:V} {μ0 μ1 hs gs:List Hd} {obs ots so so':List Ob} {ob:Ob}
 {g:Gh} {st:St} {a:A} {tm:List (Nat×D)} {n:Nat}
theorem byRefl {α:Type} {a b:α} (h:a=b):a=b:=h
theorem tget_cons (t i:Nat) (d:D) (l:List (Nat×D)):tget ((t,d)::l) i=if t=i then d else tget l i:=Eq.trans rfl rfl
theorem tget_nil (i:Nat):tget [] i=.unk:=Eq.trans rfl rfl
theorem put_none (d:D):St.put st none d=st:=Eq.trans rfl rfl
theorem put_some (t:Nat) (d:D):St.put ⟨tm,so,n⟩ (some t) d=if t<n then ⟨(t,d)::tm,so,n⟩ else ⟨tm,so,n⟩:=Eq.trans rfl rfl
theorem ev1_tmp (t:Tmp) (k:D→VR):ev1 st (.tmp t) k=k (tget st.tm t):=Eq.trans rfl rfl
theorem ev1_int (kd:IntKind) (n:Int) (k:D→VR):ev1 st (.const (.int kd n)) k=k (.atom (.int kd n)):=Eq.trans rfl rfl
theorem ev1_bool (b:Bool) (k:D→VR):ev1 st (.const (.bool b)) k=k (.atom (.bool b)):=Eq.trans rfl rfl
theorem ev1_str (s:List UInt8) (k:D→VR):ev1 st (.const (.string ⟨⟨s⟩⟩)) k=k (.atom (.str s)):=Eq.trans rfl rfl
theorem ev1_nilSlice (k:D→VR):ev1 st (.const (.slice none 0 0)) k=k (.atom .nilSlice):=Eq.trans rfl rfl
theorem ev1_nilPtr (k:D→VR):ev1 st (.const (.pointer none)) k=k (.atom .nilPtr):=Eq.trans rfl rfl
theorem ev1_nilFunc (k:D→VR):ev1 st (.const .nilFunc) k=k (.atom .nilFunc):=Eq.trans rfl rfl
theorem ev1_nilIface (k:D→VR):ev1 st (.const .nilIface) k=k (.atom .nilIface):=Eq.trans rfl rfl
theorem ev1_nilMap (k:D→VR):ev1 st (.const (.map none)) k=k (.atom .nilMap):=Eq.trans rfl rfl
theorem ev1_func (g:FuncId) (k:D→VR):ev1 st (.func g) k=k (.atom (.func (.func g) [] [])):=Eq.trans rfl rfl
theorem eval_tmp (t:Tmp):st.eval (.tmp t)=some (tget st.tm t):=Eq.trans rfl rfl
theorem eval_int (kd:IntKind) (n:Int):st.eval (.const (.int kd n))=some (.atom (.int kd n)):=Eq.trans rfl rfl
theorem eval_bool (b:Bool):st.eval (.const (.bool b))=some (.atom (.bool b)):=Eq.trans rfl rfl
theorem eval_str (s:List UInt8):st.eval (.const (.string ⟨⟨s⟩⟩))=some (.atom (.str s)):=Eq.trans rfl rfl
theorem eval_nilSlice:st.eval (.const (.slice none 0 0))=some (.atom .nilSlice):=Eq.trans rfl rfl
theorem eval_nilFunc:st.eval (.const .nilFunc)=some (.atom .nilFunc):=Eq.trans rfl rfl
theorem eval_nilIface:st.eval (.const .nilIface)=some (.atom .nilIface):=Eq.trans rfl rfl
theorem eval_nilPtr:st.eval (.const (.pointer none))=some (.atom .nilPtr):=Eq.trans rfl rfl
theorem eval_nilMap:st.eval (.const (.map none))=some (.atom .nilMap):=Eq.trans rfl rfl
theorem eval_func (g:FuncId):st.eval (.func g)=some (.atom (.func (.func g) [] [])):=Eq.trans rfl rfl
def consO {α:Type}:Option α→Option (List α)→Option (List α)
 | some d,some ds=>some (d::ds)
 | _,_=>none
theorem consO_some {α:Type} (d:α) (ds:List α):consO (some d) (some ds)=some (d::ds):=Eq.trans rfl rfl
theorem vevals_nil:st.evals []=some []:=Eq.trans rfl rfl
theorem vevals_cons (x:Operand) (xs:List Operand):st.evals (x::xs)=consO (st.eval x) (st.evals xs):=by
 simp only [St.evals]
 cases st.eval x with
 | none=>rfl
 | some d=>cases st.evals xs <;> rfl
theorem vparts_nil:st.evalParts []=some []:=Eq.trans rfl rfl
theorem vparts_cons (i:Nat) (x:Operand) (xs:List (Nat×Operand)):st.evalParts ((i,x)::xs)=consO ((st.eval x).map fun d=>(i,d)) (st.evalParts xs):=by
 simp only [St.evalParts]
 cases st.eval x with
 | none=>rfl
 | some d=>cases st.evalParts xs <;> rfl
theorem evalOptD_none:evalOptD st none=some none:=Eq.trans rfl rfl
theorem evalOptD_some (x:Operand):evalOptD st (some x)=(st.eval x).map some:=Eq.trans rfl rfl
/-! ### What an operation is -/
theorem vop_move (x:Operand):vop T st (.move x)=ev1 st x fun d=>.val d st.so:=Eq.trans rfl rfl
theorem vop_assign (x:Operand):vop T st (.assign x)=ev1 st x fun d=>.val d st.so:=Eq.trans rfl rfl
theorem vop_pick (c x y:Operand):vop T st (.pick c x y)=ev1 st c fun d=>vPick st d x y:=Eq.trans rfl rfl
theorem vPick_true (x y:Operand):vPick st (.atom (.bool true)) x y=ev1 st x fun d=>.val d st.so:=Eq.trans rfl rfl
theorem vPick_false (x y:Operand):vPick st (.atom (.bool false)) x y=ev1 st y fun d=>.val d st.so:=Eq.trans rfl rfl
theorem vop_alloc (t:TypeId):vop T st (.alloc t)=vAlloc st.so (T.zero t):=Eq.trans rfl rfl
theorem vAlloc_some (z:List V):vAlloc so (some z)=.val (.rptr so.length 0) (so++[.cell (z.map .atom)]):=Eq.trans rfl rfl
theorem vop_box (t:TypeId) (x:Operand):vop T st (.box t x)=ev1 st x fun d=>vBox st.so (cellsD st.so d):=Eq.trans rfl rfl
theorem vBox_some (cs:List D):vBox so (some cs)=.val (.rptr so.length 0) (so++[.cell cs]):=Eq.trans rfl rfl
theorem vop_build (t:TypeId) (ps:Array (Nat×Operand)):vop T st (.build t ps)=vBuildO T st.so t (st.evalParts ps.toList):=Eq.trans rfl rfl
theorem vop_lit (t:TypeId) (n:Nat) (ps:Array (Nat×Operand)):vop T st (.buildSlice t n ps)=vLitO T st.so t n (st.evalParts ps.toList):=Eq.trans rfl rfl
theorem vop_load (t:TypeId) (x:Operand):vop T st (.load t x)=ev1 st x fun d=>.ofD st.so (vLoad T st.so t d):=Eq.trans rfl rfl
theorem vop_store (t:TypeId) (x y:Operand):vop T st (.store t x y)=ev1 st x fun p=>ev1 st y fun d=>.ofS (vStore T st.so t p d):=Eq.trans rfl rfl
theorem vop_nilCheck (x:Operand):vop T st (.nilCheck x)=ev1 st x fun d=>if nnD st.so d=true then .val d st.so else .stuck:=Eq.trans rfl rfl
theorem vop_bin (op:BinOp) (t:TypeId) (x y:Operand) (z:TypeId):vop T st (.binOp op t x y z)=ev1 st x fun u=>ev1 st y fun w=>.ofD st.so (vBin T st.so op t (isConst x || isConst y) u w):=Eq.trans rfl rfl
theorem vop_un (op:UnOp) (t:TypeId) (x:Operand):vop T st (.unOp op t x)=ev1 st x fun d=>.ofD st.so (vUn op d):=Eq.trans rfl rfl
theorem vop_conv (s t:TypeId) (x:Operand):vop T st (.convert s t x)=ev1 st x fun d=>.ofDS (vConv T st.so s t d):=Eq.trans rfl rfl
theorem vop_mkIface (t:TypeId) (h:isIface T t=some false) (x:Operand):vop T st (.makeInterface t x)=ev1 st x fun d=>.val (.iface t d) st.so:=by simp only [vop,h,if_true]
theorem vop_func (f:FuncId) (a b:Array Operand):vop T st (.makeFunc (.func f) a b)=vFunc f st.so (st.evals a.toList) (st.evals b.toList):=Eq.trans rfl rfl
theorem vFunc_some (f:FuncId) (u w:List D):vFunc f so (some u) (some w)=.val (.fn f u w) so:=Eq.trans rfl rfl
theorem vop_make (t:TypeId) (x y:Operand):vop T st (.makeSlice t x y)=ev1 st x fun u=>ev1 st y fun w=>.ofDS (vMake T st.so t u w):=Eq.trans rfl rfl
theorem vop_slice (t:TypeId) (x:Operand) (lo hi:Option Operand):vop T st (.slice t x lo hi none)=ev1 st x fun d=>vCut T st t d (evalOptD st lo) (evalOptD st hi):=Eq.trans rfl rfl
theorem vCut_some (t:TypeId) (x:D) (lo hi:Option D):vCut T st t x (some lo) (some hi)=.ofDS (vSlice T st.so t x lo hi):=Eq.trans rfl rfl
theorem vop_fld (t:TypeId) (x:Operand) (i:Nat):vop T st (.fieldAddr t x i)=ev1 st x fun d=>if live st.so d=true then .ofD st.so (vFld T t i d) else .stuck:=Eq.trans rfl rfl
theorem vop_field (t:TypeId) (x:Operand) (i:Nat):vop T st (.field t x i)=ev1 st x fun d=>.ofD st.so (vField T t i d):=Eq.trans rfl rfl
theorem vop_idx (t:TypeId) (x i:Operand):vop T st (.indexAddr t x i)=ev1 st x fun u=>ev1 st i fun w=>.ofD st.so (vIdx T st.so t u w):=Eq.trans rfl rfl
theorem vop_index (t:TypeId) (x i:Operand):vop T st (.index t x i)=ev1 st x fun u=>ev1 st i fun w=>.ofD st.so (vIndex T t u w):=Eq.trans rfl rfl
theorem vop_assert (x:Operand) (s u:TypeId) (ok:Bool):vop T st (.typeAssert x s u ok)=ev1 st x fun d=>.ofD st.so (vAssert T u ok d):=Eq.trans rfl rfl
theorem vop_extract (x:Operand) (i:Nat):vop T st (.extract x i)=ev1 st x fun d=>.ofD st.so (vNth i d):=Eq.trans rfl rfl
theorem vNth_tuple (i:Nat) (ds:List D):vNth i (.tuple ds)=ds[i]?:=Eq.trans rfl rfl
theorem vop_builtin (b:Builtin) (args:Array Operand) (ts:Array TypeId):vop T st (.call { callee:=.builtin b,args:=args,argTypes:=ts })=vBuiltinO T st.so b ts.toList (st.evals args.toList):=Eq.trans rfl rfl
theorem vop_value (f:Operand) (args:Array Operand) (ts:Array TypeId):vop T st (.call { callee:=.value f,args:=args,argTypes:=ts })=vValueO (st.eval f) (st.evals args.toList):=Eq.trans rfl rfl
theorem vop_invoke (r:Operand) (name:String) (args:Array Operand) (ts:Array TypeId):vop T st (.call { callee:=.invoke r name,args:=args,argTypes:=ts })=vInvoke T st.so name (st.eval r) (st.evals args.toList):=Eq.trans rfl rfl
theorem vValue_fn (g:FuncId) (u w ds:List D):vValueO (some (.fn g u w)) (some ds)=.call g (u++(ds++w)):=Eq.trans rfl rfl
theorem vValue_yield (l:Nat) (ds:List D):vValueO (some (.atom (.func (.yield l) [] []))) (some ds)=.round l ds:=Eq.trans rfl rfl
theorem vValue_atom (g:FuncId) (u w:List V) (ds:List D):vValueO (some (.atom (.func (.func g) u w))) (some ds)=.call g (u.map .atom++(ds++w.map .atom)):=Eq.trans rfl rfl
theorem vInvoke_iface (name:String) (t:TypeId) (d:D) (ds:List D):vInvoke T so name (some (.iface t d)) (some ds)=vMeth T so (methP T t name) d ds:=Eq.trans rfl rfl
theorem vMeth_self (f:FuncId) (d:D) (ds:List D):vMeth T so (some (f,none)) d ds=.call f (d::ds):=Eq.trans rfl rfl
def callO (f:FuncId) (ds:List D):Option D→VR
 | some x=>.call f (x::ds)
 | none=>.stuck
theorem vMeth_deref (f:FuncId) (e:TypeId) (d:D) (ds:List D):vMeth T so (some (f,some e)) d ds=callO f ds (vLoad T so e d):=by
 simp only [vMeth];cases vLoad T so e d <;> rfl
theorem callO_some (f:FuncId) (ds:List D) (x:D):callO f ds (some x)=.call f (x::ds):=Eq.trans rfl rfl
theorem ofD_some (d:D):VR.ofD so (some d)=.val d so:=Eq.trans rfl rfl
theorem ofS_some:VR.ofS (some so)=.val .unk so:=Eq.trans rfl rfl
theorem ofDS_some (d:D):VR.ofDS (some (d,so))=.val d so:=Eq.trans rfl rfl
/-! ### Reading -/
def rdO:Option D→Option D
 | some d=>if D.nf d then some d else none
 | none=>none
theorem rd_one (t:TypeId) (h:isAgg? T t=some false) (cs:List D) (o:Nat):rd T t cs o=rdO cs[o]?:=by simp only [rd,h];rfl
theorem rdO_some (d:D) (h:D.nf d=true):rdO (some d)=some d:=by simp only [rdO,h,if_true]
def szO (T:Tab) (t:TypeId):Nat:=(sizeN T t).getD 0
theorem rd_agg (t:TypeId) (h:isAgg? T t=some true) (hs:(sizeN T t).isSome=true) (cs:List D) (o:Nat) (hl:o+szO T t≤cs.length) (hn:nfL ((cs.drop o).take (szO T t))=true):rd T t cs o=some (.agg ((cs.drop o).take (szO T t))):=by
 cases hz:sizeN T t with
 | none=>rw [hz] at hs;cases hs
 | some m=>simp only [szO,hz,Option.getD_some] at hl hn ⊢;simp only [rd,h,hz,if_pos hl,if_pos hn]
theorem vLoad_iptr (t:TypeId) (cs:List D) (o:Nat):vLoad T so t (.iptr cs o)=rd T t cs o:=Eq.trans rfl rfl
def vLoadR (T:Tab) (t:TypeId) (c:Nat):Option (List D)→Option D
 | some e=>rd T t e c
 | none=>none
def vLoadO (T:Tab) (t:TypeId) (n j c:Nat):Option Ob→Option D
 | some (.sl _ es)=>if es.length=n then vLoadR T t c es[j]? else none
 | _=>none
theorem vLoad_optr (t:TypeId) (k n j c:Nat):vLoad T so t (.optr k n j c)=vLoadO T t n j c so[k]?:=by
 simp only [vLoad]
 cases so[k]? with
 | none=>rfl
 | some ob=>cases ob <;> rfl
theorem vLoadO_sl (t:TypeId) (n j c s:Nat) (es:List (List D)) (h:es.length=n):vLoadO T t n j c (some (.sl s es))=vLoadR T t c es[j]?:=by simp only [vLoadO,h,if_true]
theorem vLoadR_some (t:TypeId) (c:Nat) (e:List D):vLoadR T t c (some e)=rd T t e c:=Eq.trans rfl rfl
def vLoadC (T:Tab) (t:TypeId) (c:Nat):Option Ob→Option D
 | some (.cell cs)=>rd T t cs c
 | _=>none
theorem vLoad_rptr (t:TypeId) (k c:Nat):vLoad T so t (.rptr k c)=vLoadC T t c so[k]?:=by
 simp only [vLoad,vLoadC];rfl
theorem vLoadC_cell (t:TypeId) (c:Nat) (cs:List D):vLoadC T t c (some (.cell cs))=rd T t cs c:=Eq.trans rfl rfl
/-! ### Places -/
def vIdxI (T:Tab) (s:Nat):Option (List D)→Option D
 | some e=>some (.iptr e 0)
 | none=>none
theorem vIdx_imm (t:TypeId) (s:Nat) (es:List (List D)) (kd:IntKind) (n:Int) (ht:elemSize T t=some s) (h0:0≤n):vIdx T so t (.imm s es) (.atom (.int kd n))=vIdxI T s es[n.toNat]?:=by
 simp only [vIdx,if_pos h0,if_pos ht,vIdxI];rfl
theorem vIdxI_some (s:Nat) (e:List D):vIdxI T s (some e)=some (.iptr e 0):=Eq.trans rfl rfl
def vIdxO (T:Tab) (t:TypeId) (k m:Nat) (n:Int):Option Ob→Option D
 | some (.sl s es)=>if 0≤n∧elemSize T t=some s∧es.length=m∧n.toNat<m then some (.optr k m n.toNat 0) else none
 | _=>none
theorem vIdx_own (t:TypeId) (k m:Nat) (kd:IntKind) (n:Int):vIdx T so t (.own k m) (.atom (.int kd n))=vIdxO T t k m n so[k]?:=by
 simp only [vIdx,vIdxO]
 by_cases h0:0≤n
 ·rw [if_pos h0];split
  ·rename_i h;rw [h];simp only [h0,true_and]
  ·rename_i h;split
   ·rename_i h2;exact absurd h2 (h _ _)
   ·rfl
 ·rw [if_neg h0];split
  ·rw [if_neg (fun h=>h0 h.1)]
  ·rfl
theorem vIdxO_sl (t:TypeId) (k m s:Nat) (n:Int) (es:List (List D)) (ht:elemSize T t=some s) (hm:es.length=m) (h0:0≤n) (hj:n.toNat<m):vIdxO T t k m n (some (.sl s es))=some (.optr k m n.toNat 0):=by
 simp only [vIdxO,if_pos (show 0≤n∧elemSize T t=some s∧es.length=m∧n.toNat<m from ⟨h0,ht,hm,hj⟩)]
theorem vFld_i (t:TypeId) (i:Nat) (cs:List D) (o:Nat):vFld T t i (.iptr cs o)=(fldAt T t i).map fun c=>.iptr cs (o+c):=by simp only [vFld];cases fldAt T t i <;> rfl
theorem vFld_o (t:TypeId) (i k n j o:Nat):vFld T t i (.optr k n j o)=(fldAt T t i).map fun c=>.optr k n j (o+c):=by simp only [vFld];cases fldAt T t i <;> rfl
theorem vFld_r (t:TypeId) (i k o:Nat):vFld T t i (.rptr k o)=(fldAt T t i).map fun c=>.rptr k (o+c):=by simp only [vFld];cases fldAt T t i <;> rfl
theorem live_iptr (cs:List D) (o:Nat):live so (.iptr cs o)=true:=Eq.trans rfl rfl
def aSl (n:Nat):Option Ob→Bool
 | some (.sl _ es)=>Nat.beq es.length n
 | _=>false
theorem aSl_sl (n s:Nat) (es:List (List D)) (h:es.length=n):aSl n (some (.sl s es))=true:=by simp only [aSl,h,Nat.beq_refl]
theorem aliveS_eq (k n:Nat):aliveS so k n=aSl n so[k]?:=by
 simp only [aliveS,aSl];rfl
def aCl:Option Ob→Bool
 | some (.cell _)=>true
 | _=>false
theorem aCl_cell (cs:List D):aCl (some (.cell cs))=true:=Eq.trans rfl rfl
theorem aliveC_eq (k:Nat):aliveC so k=aCl so[k]?:=by simp only [aliveC,aCl];rfl
theorem live_optr (k n j c:Nat):live so (.optr k n j c)=aSl n so[k]?:=aliveS_eq k n
theorem live_rptr (k c:Nat):live so (.rptr k c)=aCl so[k]?:=aliveC_eq k
theorem nnD_fn (f:FuncId) (u w:List D):nnD so (.fn f u w)=true:=Eq.trans rfl rfl
theorem nnD_func (f:FuncId) (u w:List V):nnD so (.atom (.func (.func f) u w))=true:=Eq.trans rfl rfl
theorem nnD_iptr (cs:List D) (o:Nat):nnD so (.iptr cs o)=true:=Eq.trans rfl rfl
theorem nnD_optr (k n j c:Nat):nnD so (.optr k n j c)=aSl n so[k]?:=aliveS_eq k n
theorem nnD_rptr (k c:Nat):nnD so (.rptr k c)=aCl so[k]?:=aliveC_eq k
/-! ### Cells -/
theorem okD_atom (v:V):okD so (.atom v)=v.one:=Eq.trans rfl rfl
theorem okD_own (k n:Nat):okD so (.own k n)=aSl n so[k]?:=aliveS_eq k n
theorem okD_optr (k n j c:Nat):okD so (.optr k n j c)=aSl n so[k]?:=aliveS_eq k n
theorem okD_rptr (k c:Nat):okD so (.rptr k c)=aCl so[k]?:=aliveC_eq k
theorem okD_imm (s:Nat) (es:List (List D)):okD so (.imm s es)=true:=Eq.trans rfl rfl
theorem okD_iptr (cs:List D) (o:Nat):okD so (.iptr cs o)=true:=Eq.trans rfl rfl
theorem okD_fn (f:FuncId) (u w:List D):okD so (.fn f u w)=true:=Eq.trans rfl rfl
theorem okD_iface (t:TypeId) (d:D):okD so (.iface t d)=true:=Eq.trans rfl rfl
theorem okDs_nil:okDs so []=true:=Eq.trans rfl rfl
theorem okDs_cons (d:D) (ds:List D):okDs so (d::ds)=(okD so d && okDs so ds):=Eq.trans rfl rfl
theorem cellsD_agg (ds:List D):cellsD so (.agg ds)=cond (okDs so ds) (some ds) none:=by simp only [cellsD];cases okDs so ds <;> rfl
theorem cellsD_atom (v:V) (h:v.one=true):cellsD so (.atom v)=some [.atom v]:=by simp [cellsD,okD,h]
theorem cellsD_own (k n:Nat):cellsD so (.own k n)=cond (aSl n so[k]?) (some [.own k n]) none:=by simp only [cellsD,okD_own];cases aSl n so[k]? <;> rfl
theorem cellsD_optr (k n j c:Nat):cellsD so (.optr k n j c)=cond (aSl n so[k]?) (some [.optr k n j c]) none:=by simp only [cellsD,okD_optr];cases aSl n so[k]? <;> rfl
theorem cellsD_rptr (k c:Nat):cellsD so (.rptr k c)=cond (aCl so[k]?) (some [.rptr k c]) none:=by simp only [cellsD,okD_rptr];cases aCl so[k]? <;> rfl
theorem cellsD_imm (s:Nat) (es:List (List D)):cellsD so (.imm s es)=some [.imm s es]:=Eq.trans rfl rfl
theorem cellsD_iptr (cs:List D) (o:Nat):cellsD so (.iptr cs o)=some [.iptr cs o]:=Eq.trans rfl rfl
theorem cellsD_fn (f:FuncId) (u w:List D):cellsD so (.fn f u w)=some [.fn f u w]:=Eq.trans rfl rfl
theorem cellsD_iface (t:TypeId) (d:D):cellsD so (.iface t d)=some [.iface t d]:=Eq.trans rfl rfl
def o0 (so:List Ob) (k n:Nat):Option Ob→Option (D×List Ob)
 | some (.sl s es)=>if es.length=n∧nlR es=true then some (.fresh s es,so.set k .dead) else none
 | _=>none
theorem out0_own (k n:Nat):out0 so (.own k n)=o0 so k n so[k]?:=by
 simp only [out0,o0];rfl
theorem o0_sl (k n s:Nat) (es:List (List D)) (h:es.length=n) (hn:nlR es=true):o0 so k n (some (.sl s es))=some (.fresh s es,so.set k .dead):=by simp only [o0,if_pos (And.intro h hn)]
theorem out0_atom (v:V):out0 so (.atom v)=some (.atom v,so):=Eq.trans rfl rfl
theorem out0_imm (s:Nat) (es:List (List D)):out0 so (.imm s es)=some (.imm s es,so):=Eq.trans rfl rfl
theorem out0_iptr (cs:List D) (o:Nat):out0 so (.iptr cs o)=some (.iptr cs o,so):=Eq.trans rfl rfl
theorem out0_unk:out0 so .unk=some (.unk,so):=Eq.trans rfl rfl
theorem out0_iface (t:TypeId) (d:D) (h:D.nl d=true):out0 so (.iface t d)=some (.iface t d,so):=by simp [out0,D.nl,h]
theorem out0_fn (f:FuncId) (u w:List D) (h:nlL u=true) (h':nlL w=true):out0 so (.fn f u w)=some (.fn f u w,so):=by simp [out0,D.nl,h,h']
theorem outs_nil:outs so []=some ([],so):=Eq.trans rfl rfl
def outsO (ds:List D):Option (D×List Ob)→Option (List D×List Ob)
 | some (d,so)=>(outs so ds).map fun q=>(d::q.1,q.2)
 | none=>none
theorem outs_cons (d:D) (ds:List D):outs so (d::ds)=outsO ds (out0 so d):=by
 simp only [outs,outsO]
 cases out0 so d with
 | none=>rfl
 | some q =>
   obtain ⟨d1,s1⟩:=q;simp only
   cases outs s1 ds with
   | none=>rfl
   | some q=>rfl
theorem outsO_some (ds:List D) (d:D):outsO ds (some (d,so))=(outs so ds).map fun q=>(d::q.1,q.2):=Eq.trans rfl rfl
/-! ### Stores -/
def stO (so:List Ob) (k n j c:Nat) (cs:List D):Option Ob→Option (List Ob)
 | some (.sl s es)=>if es.length=n then (match es[j]? with
   | some e=>if c+cs.length≤e.length then some (so.set k (.sl s (es.set j (overD e c cs)))) else none
   | none=>none) else none
 | _=>none
def stQ (k n j c:Nat):Option (List D×List Ob)→Option (List Ob)
 | some (cs,so)=>stO so k n j c cs so[k]?
 | none=>none
def stC (so:List Ob) (k c:Nat) (cs:List D):Option Ob→Option (List Ob)
 | some (.cell es)=>if c+cs.length≤es.length then some (so.set k (.cell (overD es c cs))) else none
 | _=>none
def stP (so:List Ob) (m:Nat) (p:D):Option (List D)→Option (List Ob)
 | some cs=>if cs.length=m then (match p with
   | .optr k n j c=>stQ k n j c (outs so cs)
   | .rptr k c=>stC so k c cs so[k]?
   | _=>none) else none
 | none=>none
theorem vStore_eq (t:TypeId) (hs:(sizeN T t).isSome=true) (p y:D):vStore T so t p y=stP so (szO T t) p (cellsD so y):=by
 cases hz:sizeN T t with
 | none=>rw [hz] at hs;cases hs
 | some m =>
   simp only [vStore,hz,szO,Option.getD_some]
   cases cellsD so y with
   | none=>rfl
   | some cs =>
     simp only [stP];split
     ·cases p with
      | optr k n j c =>
        simp only
        cases outs so cs with
        | none=>rfl
        | some q =>
          obtain ⟨cs',so'⟩:=q;simp only [stQ,stO]
          cases so'[k]? with
          | none=>rfl
          | some ob=>cases ob <;> rfl
      | rptr k c =>
        simp only [stC]
        cases so[k]? with
        | none=>rfl
        | some ob=>cases ob <;> rfl
      | _=>rfl
     ·rfl
theorem stP_optr (m k n j c:Nat) (cs:List D) (h:cs.length=m):stP so m (.optr k n j c) (some cs)=stQ k n j c (outs so cs):=by simp only [stP,if_pos h]
theorem stP_rptr (m k c:Nat) (cs:List D) (h:cs.length=m):stP so m (.rptr k c) (some cs)=stC so k c cs so[k]?:=by simp only [stP,if_pos h]
theorem stQ_some (k n j c:Nat) (cs:List D):stQ k n j c (some (cs,so))=stO so k n j c cs so[k]?:=Eq.trans rfl rfl
def stR (so:List Ob) (k s j c:Nat) (es:List (List D)) (cs:List D):Option (List D)→Option (List Ob)
 | some e=>if c+cs.length≤e.length then some (so.set k (.sl s (es.set j (overD e c cs)))) else none
 | none=>none
theorem stO_sl (k n j c s:Nat) (cs:List D) (es:List (List D)) (h:es.length=n):stO so k n j c cs (some (.sl s es))=stR so k s j c es cs es[j]?:=by
 simp only [stO,if_pos h,stR]
theorem stR_some (k s j c:Nat) (es:List (List D)) (cs e:List D) (h:c+cs.length≤e.length):stR so k s j c es cs (some e)=some (so.set k (.sl s (es.set j (overD e c cs)))):=by simp only [stR,if_pos h]
theorem stC_cell (k c:Nat) (cs es:List D) (h:c+cs.length≤es.length):stC so k c cs (some (.cell es))=some (so.set k (.cell (overD es c cs))):=by simp only [stC,if_pos h]
theorem overD_eq (ds:List D) (o:Nat) (cs:List D):overD ds o cs=ds.take o++(cs++ds.drop (o+cs.length)):=Eq.trans rfl rfl
/-! ### Made -/
theorem vMake_eq (t:TypeId) (kx ky:IntKind) (n c:Int) (h1:mkOk T t=true) (h2:0≤n) (h3:n≤c) (h4:c.toNat * ebytes T t<17592186044416) (h5:c.toNat<17592186044416) (h6:(ezero T t).all V.one=true) :
  vMake T so t (.atom (.int kx n)) (.atom (.int ky c))=some (.own so.length n.toNat,so++[.sl (esz T t) (List.replicate n.toNat ((ezero T t).map .atom))]):=by
 simp only [vMake];rw [if_pos ⟨h1,h2,h3,h4,h5,h6⟩]
theorem vLitO_some (t:TypeId) (n:Nat) (qs:List (Nat×D)):vLitO T so t n (some qs)=.ofDS (vLit T so t n qs):=Eq.trans rfl rfl
def lit1 (T:Tab) (t:TypeId) (m:Nat):Option (List D×List Ob)→Option (D×List Ob)
 | some (cs,so)=>if m=esz T t then some (.own so.length 1,so++[.sl (esz T t) [cs]]) else none
 | none=>none
def litC (T:Tab) (so:List Ob) (t:TypeId):Option (List D)→Option (D×List Ob)
 | some cs=>lit1 T t cs.length (outs so cs)
 | none=>none
theorem vLit_one (t:TypeId) (h1:mkOk T t=true) (h2:(ezero T t).all V.one=true) (d:D):vLit T so t 1 [(0,d)]=litC T so t (cellsD so d):=by
 obtain ⟨e,u1,u2,u3,hz,h5,h6⟩:=mkOk_eq h1;simp only [vLit];rw [if_pos ⟨h1,h2,by omega⟩]
 cases cellsD so d with
 | none=>rfl
 | some cs =>
   simp only [litC]
   cases outs so cs with
   | none=>rfl
   | some q=>rfl
theorem litC_some (t:TypeId) (cs:List D):litC T so t (some cs)=lit1 T t cs.length (outs so cs):=Eq.trans rfl rfl
theorem lit1_some (t:TypeId) (m:Nat) (cs:List D) (h:m=esz T t):lit1 T t m (some (cs,so))=some (.own so.length 1,so++[.sl (esz T t) [cs]]):=by simp only [lit1,if_pos h]
def litO (T:Tab) (t:TypeId) (n:Nat):Option (List D×List Ob)→Option (D×List Ob)
 | some (cs',so')=>some (.own so'.length n,so'++[.sl (esz T t) (rowsOf (esz T t) n cs')])
 | none=>none
theorem litO_some (t:TypeId) (n:Nat) (cs:List D):litO T t n (some (cs,so))=some (.own so.length n,so++[.sl (esz T t) (rowsOf (esz T t) n cs)]):=Eq.trans rfl rfl
def litN (T:Tab) (so:List Ob) (t:TypeId) (n:Nat):Option (List D)→Option (D×List Ob)
 | some cells=>if nlL cells=true then some (.own so.length n,so++[.sl (esz T t) (rowsOf (esz T t) n cells)]) else litO T t n (outs so cells)
 | none=>none
theorem litN_out (t:TypeId) (n:Nat) (cells:List D) (h:nlL cells=false):litN T so t n (some cells)=litO T t n (outs so cells):=by simp only [litN,h,Bool.false_eq_true,if_false]
theorem vLit_zero (t:TypeId) (h1:mkOk T t=true) (h2:(ezero T t).all V.one=true):vLit T so t 0 []=some (.own so.length 0,so++[.sl (esz T t) []]):=by
 simp only [vLit];rw [if_pos ⟨h1,h2,by omega⟩];simp [fillD,nlL,rowsOf]
theorem vLit_many (t:TypeId) (n:Nat) (h1:mkOk T t=true) (h2:(ezero T t).all V.one=true) (h3:(n+2) * esz T t≤16777216) (ps:List (Nat×D)) :
  vLit T so t (n+2) ps=litN T so t (n+2) (fillD so (fun i=>some (i * esz T t,esz T t)) ((List.replicate (n+2) ((ezero T t).map .atom)).flatten) ps):=by
 simp only [vLit];rw [if_pos ⟨h1,h2,h3⟩]
 rfl
theorem litN_some (t:TypeId) (n:Nat) (cells:List D) (h:nlL cells=true):litN T so t n (some cells)=some (.own so.length n,so++[.sl (esz T t) (rowsOf (esz T t) n cells)]):=by simp only [litN,if_pos h]
theorem fillD_nil (place:Nat→Option (Nat×Nat)) (cells:List D):fillD so place cells []=some cells:=Eq.trans rfl rfl
def fillC (so:List Ob) (place:Nat→Option (Nat×Nat)) (cells:List D) (rest:List (Nat×D)):Option (Nat×Nat)→Option (List D)→Option (List D)
 | some (off,size),some cs=>if cs.length=size∧off+size≤cells.length then fillD so place (overD cells off cs) rest else none
 | _,_=>none
theorem fillD_cons (place:Nat→Option (Nat×Nat)) (cells:List D) (i:Nat) (d:D) (rest:List (Nat×D)):fillD so place cells ((i,d)::rest)=fillC so place cells rest (place i) (cellsD so d):=by
 simp only [fillD,fillC];rfl
theorem fillC_some (place:Nat→Option (Nat×Nat)) (cells:List D) (rest:List (Nat×D)) (off size:Nat) (cs:List D) (h:cs.length=size) (h':off+size≤cells.length) :
  fillC so place cells rest (some (off,size)) (some cs)=fillD so place (overD cells off cs) rest:=by simp only [fillC,if_pos (And.intro h h')]
theorem vBuildO_some (t:TypeId) (qs:List (Nat×D)):vBuildO T so t (some qs)=.ofD so (vBuild T so t qs):=Eq.trans rfl rfl
def buildZ (T:Tab) (so:List Ob) (t:TypeId) (ps:List (Nat×D)):Option (List V)→Option D
 | some z=>if z.all V.one=true then (fillD so (fldSz T t) (z.map .atom) ps).map .agg else none
 | none=>none
theorem vBuild_eq (t:TypeId) (h:isStruct T t=true) (ps:List (Nat×D)):vBuild T so t ps=buildZ T so t ps (T.zero t):=by
 simp only [vBuild,if_pos h];cases T.zero t <;> rfl
theorem vBuild_arr (t:TypeId) (h:isArr T t=true) (ps:List (Nat×D)):vBuild T so t ps=buildAr so ps (arrOf T t) (T.zero t):=by
 have h1:¬ isStruct T t=true:=by
  intro h2;unfold isArr arrOf at h;unfold isStruct at h2;split at h2
  ·rename_i fs e;rw [e] at h;cases h
  ·cases h2
 simp only [vBuild,if_neg h1]
theorem buildAr_some (n s:Nat) (e:TypeId) (z:List V) (ps:List (Nat×D)) (h:z.all V.one=true):buildAr so ps (some (n,e,s)) (some z)=(fillD so (fun i=>some (i * s,s)) (z.map .atom) ps).map .agg:=by simp only [buildAr,if_pos h]
theorem buildZ_some (t:TypeId) (ps:List (Nat×D)) (z:List V) (h:z.all V.one=true):buildZ T so t ps (some z)=(fillD so (fldSz T t) (z.map .atom) ps).map .agg:=by simp only [buildZ,if_pos h]
/-! ### Appending -/
def apR (so:List Ob) (s k n:Nat):Option Ob→Option (List (List D)×List Ob)
 | some (.sl s' es)=>if es.length=n∧s'=s∧nlR es=true then (if nfR es then some (es,so) else some (es,so.set k .dead)) else none
 | _=>none
theorem appRows_imm (s:Nat) (es:List (List D)):appRows so s (.imm s es)=some (es,so):=by simp only [appRows,if_true]
theorem appRows_nil (s:Nat):appRows so s (.atom .nilSlice)=some ([],so):=Eq.trans rfl rfl
theorem appRows_own (s k n:Nat):appRows so s (.own k n)=apR so s k n so[k]?:=by simp only [appRows,apR];rfl
theorem apR_copy (s k n:Nat) (es:List (List D)) (h:es.length=n) (hf:nfR es=true) (hl:nlR es=true):apR so s k n (some (.sl s es))=some (es,so):=by simp only [apR,h,and_self,if_true,hf,hl]
theorem apR_move (s k n:Nat) (es:List (List D)) (h:es.length=n) (hf:nfR es=false) (hl:nlR es=true):apR so s k n (some (.sl s es))=some (es,so.set k .dead):=by simp [apR,h,hf,hl]
def apX (s b:Nat) (x:D):Option (List (List D)×List Ob)→Option (D×List Ob)
 | some (fs,so1)=>match x with
   | .own k n=>match so1[k]? with
     | some (.sl s' es)=>if s'=s∧es.length=n∧n+fs.length<17592186044416∧(n+fs.length) * b<17592186044416 then some (.own k (n+fs.length),so1.set k (.sl s (es++fs))) else none
     | _=>none
   | .atom .nilSlice=>if fs.length<17592186044416∧fs.length * b<17592186044416 then some (.own so1.length fs.length,so1++[.sl s fs]) else none
   | _=>none
 | none=>none
def fstO:Option (Nat×Nat)→Nat
 | some q=>q.1
 | none=>0
def sndO:Option (Nat×Nat)→Nat
 | some q=>q.2
 | none=>0
theorem fstO_some (s b:Nat):fstO (some (s,b))=s:=Eq.trans rfl rfl
theorem sndO_some (s b:Nat):sndO (some (s,b))=b:=Eq.trans rfl rfl
def apS (T:Tab) (t:TypeId):Nat:=fstO (appOk T t t)
def apB (T:Tab) (t:TypeId):Nat:=sndO (appOk T t t)
theorem vAppend_eq (t:TypeId) (h:(appOk T t t).isSome=true) (x y:D):vAppend T so t t x y=apX (apS T t) (apB T t) x (appRows so (apS T t) y):=by
 cases ha:appOk T t t with
 | none=>rw [ha] at h;cases h
 | some q =>
   obtain ⟨s,b⟩:=q;simp only [vAppend,ha,apS,apB,fstO,sndO]
   cases appRows so s y <;> rfl
def apO (so:List Ob) (s b k n:Nat) (fs:List (List D)):Option Ob→Option (D×List Ob)
 | some (.sl s' es)=>if s'=s∧es.length=n∧n+fs.length<17592186044416∧(n+fs.length) * b<17592186044416 then some (.own k (n+fs.length),so.set k (.sl s (es++fs))) else none
 | _=>none
theorem apX_own (s b k n:Nat) (fs:List (List D)):apX s b (.own k n) (some (fs,so))=apO so s b k n fs so[k]?:=by
 simp only [apX]
 cases so[k]? with
 | none=>rfl
 | some ob=>cases ob <;> rfl
theorem apO_sl (s b k n:Nat) (fs es:List (List D)) (h:es.length=n) (h1:n+fs.length<17592186044416) (h2:(n+fs.length) * b<17592186044416):apO so s b k n fs (some (.sl s es))=some (.own k (n+fs.length),so.set k (.sl s (es++fs))):=by
 simp only [apO];rw [if_pos ⟨trivial,h,h1,h2⟩]
theorem apX_nil (s b:Nat) (fs:List (List D)) (h1:fs.length<17592186044416) (h2:fs.length * b<17592186044416):apX s b (.atom .nilSlice) (some (fs,so))=some (.own so.length fs.length,so++[.sl s fs]):=by
 simp only [apX];rw [if_pos ⟨h1,h2⟩]
/-! ### Lengths, conversions, parts -/
theorem vBuiltinO_some (b:Builtin) (ts:List TypeId) (ds:List D):vBuiltinO T so b ts (some ds)=vBuiltin T so b ts ds:=Eq.trans rfl rfl
theorem vBuiltin_len (t:TypeId) (x:D):vBuiltin T so .len [t] [x]=vLens T so t x:=Eq.trans rfl rfl
theorem vBuiltin_append (t0 t1:TypeId) (x y:D):vBuiltin T so .append [t0,t1] [x,y]=.ofDS (vAppend T so t0 t1 x y):=Eq.trans rfl rfl
theorem vBuiltin_min (ts:List TypeId) (ds:List D):vBuiltin T so .min ts ds=vExt so (fun b a=>decide (b<a)) (atomsOf ds):=Eq.trans rfl rfl
theorem vBuiltin_max (ts:List TypeId) (ds:List D):vBuiltin T so .max ts ds=vExt so (fun b a=>decide (b > a)) (atomsOf ds):=Eq.trans rfl rfl
theorem vLens_sl (t:TypeId) (h:isSlice T t=true) (x:D):vLens T so t x=.ofD so ((vLen so x).map fun n:Nat=>.atom (.int .i64 (n:Int))):=by simp only [vLens,if_pos h]
theorem vLens_str (t:TypeId) (h:isStr T t=true) (s:List UInt8):vLens T so t (.atom (.str s))=.val (.atom (.int .i64 s.length)) so:=by
 have:isSlice T t=false:=by
  unfold isStr at h;unfold isSlice
  cases hu:T.und t with
  | none=>rfl
  | some td=>rw [hu] at h;cases td <;> first | rfl | cases h
 simp only [vLens,this,h,if_true];rfl
theorem vLen_imm (s:Nat) (es:List (List D)):vLen so (.imm s es)=some es.length:=Eq.trans rfl rfl
theorem vLen_own (k n:Nat):vLen so (.own k n)=cond (aSl n so[k]?) (some n) none:=by simp only [vLen,aliveS_eq];cases aSl n so[k]? <;> rfl
theorem vLen_nil:vLen so (.atom .nilSlice)=some 0:=Eq.trans rfl rfl
theorem vBin_atom (op:BinOp) (t:TypeId) (k:Bool) (u w:V):vBin T so op t k (.atom u) (.atom w)=(binOp T op t k u w).map .atom:=Eq.trans rfl rfl
def aggB (T:Tab) (op:BinOp) (t:TypeId) (k:Bool):Option (List V)→Option (List V)→Option D
 | some us,some ws=>(binOp T op t k (.agg us) (.agg ws)).map .atom
 | _,_=>none
theorem vBin_agg (op:BinOp) (t:TypeId) (k:Bool) (us ws:List D):vBin T so op t k (.agg us) (.agg ws)=aggB T op t k (atomsOf us) (atomsOf ws):=by simp only [vBin,aggB];rfl
theorem aggB_some (op:BinOp) (t:TypeId) (k:Bool) (us ws:List V):aggB T op t k (some us) (some ws)=(binOp T op t k (.agg us) (.agg ws)).map .atom:=Eq.trans rfl rfl
theorem atomsOf_nil:atomsOf []=some []:=Eq.trans rfl rfl
theorem atomsOf_cons (v:V) (ds:List D):atomsOf (.atom v::ds)=(atomsOf ds).map (v::·):=Eq.trans rfl rfl
theorem vUn_atom (op:UnOp) (v:V):vUn op (.atom v)=(unOp op v).map .atom:=Eq.trans rfl rfl
theorem un_neg (kd:IntKind) (n:Int):unOp .neg (.int kd n)=some (.int kd (kd.wrap (0 - n))):=Eq.trans rfl rfl
theorem vField_agg (t:TypeId) (i:Nat) (cs:List D):vField T t i (.agg cs)=(fldTy T t i).bind fun q=>rd T q.1 cs q.2:=by
 simp only [vField]
 cases fldTy T t i with
 | none=>rfl
 | some q=>rfl
theorem natI_int (kd:IntKind) (n:Int) (h:0≤n):natI (.atom (.int kd n))=some n.toNat:=by simp only [natI,if_pos h]
def idxS:List UInt8→Option Nat→Option D
 | s,some j=>(s[j]?).map fun b=>.atom (.int .u8 b.toNat)
 | _,none=>none
def arr1 (T:Tab) (cs:List D) (j:Nat):Option (Nat×TypeId×Nat)→Option D
 | some (n,e,s)=>if j<n then rd T e cs (j * s) else none
 | none=>none
theorem arr1_some (cs:List D) (j n s:Nat) (e:TypeId) (h:j<n):arr1 T cs j (some (n,e,s))=rd T e cs (j * s):=by simp only [arr1,if_pos h]
theorem vIndex_agg (t:TypeId) (cs:List D) (kd:IntKind) (n:Int) (h:0≤n):vIndex T t (.agg cs) (.atom (.int kd n))=arr1 T cs n.toNat (arrOf T t):=by
 have:natI (.atom (.int kd n))=some n.toNat:=by simp only [natI];rw [if_pos h]
 simp only [vIndex,this,vArr,arr1];cases arrOf T t <;> rfl
def arrR (k c j:Nat):Option (Nat×TypeId×Nat)→Option Ob→Option D
 | some (m,_,s),some (.cell _)=>if j<m then some (.rptr k (c+j * s)) else none
 | _,_=>none
theorem arrR_some (k c j m s:Nat) (e:TypeId) (cs:List D) (h:j<m):arrR k c j (some (m,e,s)) (some (.cell cs))=some (.rptr k (c+j * s)):=by simp only [arrR,if_pos h]
theorem vIdx_rptr (t:TypeId) (k c:Nat) (kd:IntKind) (n:Int) (h0:0≤n):vIdx T so t (.rptr k c) (.atom (.int kd n))=arrR k c n.toNat (arrOf T t) so[k]?:=by
 simp only [vIdx,if_pos h0,arrR];rfl
def arrI (cs:List D) (o j:Nat):Option (Nat×TypeId×Nat)→Option D
 | some (m,_,s)=>if j<m then some (.iptr cs (o+j * s)) else none
 | none=>none
theorem arrI_some (cs:List D) (o j m s:Nat) (e:TypeId) (h:j<m):arrI cs o j (some (m,e,s))=some (.iptr cs (o+j * s)):=by simp only [arrI,if_pos h]
theorem vIdx_iptr (t:TypeId) (cs:List D) (o:Nat) (kd:IntKind) (n:Int) (h0:0≤n):vIdx T so t (.iptr cs o) (.atom (.int kd n))=arrI cs o n.toNat (arrOf T t):=by
 simp only [vIdx,if_pos h0,arrI];rfl
theorem vIndex_str (t:TypeId) (h:isStr T t=true) (s:List UInt8) (i:D):vIndex T t (.atom (.str s)) i=idxS s (natI i):=by
 simp only [vIndex,idxS];cases natI i <;> simp [h]
theorem idxS_some (s:List UInt8) (j:Nat):idxS s (some j)=(s[j]?).map fun b=>.atom (.int .u8 b.toNat):=Eq.trans rfl rfl
theorem vAssert_eq (u:TypeId) (h:isIface T u=some false) (t:TypeId) (d:D):vAssert T u false (.iface t d)=if t=u then some d else none:=by
 simp only [vAssert,if_pos h];split <;> rfl
def cvI (T:Tab) (so:List Ob) (s t:TypeId) (x:D):Option Cv→Option (D×List Ob)
 | some (.int k)=>match x with
   | .atom (.int _ n)=>some (.atom (.int k (k.wrap n)),so)
   | _=>none
 | _=>vConv T so s t x
theorem vConv_int (s t:TypeId) (kd:IntKind) (n:Int):vConv T so s t (.atom (.int kd n))=cvI T so s t (.atom (.int kd n)) (cvOf T s t):=by
 cases h:cvOf T s t with
 | none=>rfl
 | some c=>cases c <;> first | rfl | (simp only [vConv,h,cvI])
theorem cvI_int (s t:TypeId) (k kd:IntKind) (n:Int):cvI T so s t (.atom (.int kd n)) (some (.int k))=some (.atom (.int k (k.wrap n)),so):=Eq.trans rfl rfl
def orI (k:IntKind) (x y:Int):Int:=k.wrap ((BitVec.ofInt k.bits x ||| BitVec.ofInt k.bits y).toNat:Int)
theorem bin_or (t:TypeId) (f:Bool) (kd:IntKind) (x y:Int):binOp T .or t f (.int kd x) (.int kd y)=some (.int kd (orI kd x y)):=by simp [binOp,intOp,Op.intBits,pureInt,orI,pure]
def andI (k:IntKind) (x y:Int):Int:=k.wrap ((BitVec.ofInt k.bits x &&& BitVec.ofInt k.bits y).toNat:Int)
theorem bin_and (t:TypeId) (f:Bool) (kd:IntKind) (x y:Int):binOp T .and t f (.int kd x) (.int kd y)=some (.int kd (andI kd x y)):=by simp [binOp,intOp,Op.intBits,pureInt,andI,pure]
theorem vConv_str (s t:TypeId) (h:cvOf T s t=some .str) (b:List UInt8):vConv T so s t (.atom (.str b))=some (.atom (.str b),so):=by simp only [vConv,h]
theorem vConv_bytes (s t:TypeId) (h:cvOf T s t=some .bytes) (b:List UInt8) (hk:bytesOk=true) (hb:b.length<17592186044416):vConv T so s t (.atom (.str b))=some (.own so.length b.length,so++[.sl 1 (b.map byteD)]):=by simp only [vConv,h,if_pos (And.intro hk hb)]
theorem vConv_text (s t:TypeId) (h:cvOf T s t=some .text) (b:List UInt8):vConv T so s t (.imm 1 (b.map byteD))=some (.atom (.str b),so):=by simp only [vConv,h,bytesD_map,Option.map_some]
theorem vSlice_str (t:TypeId) (h:isStr T t=true) (s:List UInt8) (lo hi:Option D) (a b:Nat) (e1:optD lo 0=some a) (e2:optD hi s.length=some b) (h1:a≤b) (h2:b≤s.length):vSlice T so t (.atom (.str s)) lo hi=some (.atom (.str ((s.take b).drop a)),so):=by
 simp only [vSlice,h,e1,e2,h1,h2,and_self,if_true]
def cutI (so:List Ob) (s:Nat) (es:List (List D)):Option Nat→Option Nat→Option (D×List Ob)
 | some a,some b=>if a≤b∧b≤es.length then some (.imm s ((es.take b).drop a),so) else none
 | _,_=>none
theorem vSlice_imm (t:TypeId) (s:Nat) (h:elemSize T t=some s) (es:List (List D)) (lo hi:Option D):vSlice T so t (.imm s es) lo hi=cutI so s es (optD lo 0) (optD hi es.length):=by
 simp only [vSlice,h,if_true];cases optD lo 0 <;> cases optD hi es.length <;> rfl
theorem cutI_some (s:Nat) (es:List (List D)) (a b:Nat) (h1:a≤b) (h2:b≤es.length):cutI so s es (some a) (some b)=some (.imm s ((es.take b).drop a),so):=by simp only [cutI,if_pos (And.intro h1 h2)]
def cutO (so:List Ob) (k n:Nat):Option Nat→Option Ob→Option Nat→Option Nat→Option (D×List Ob)
 | some s',some (.sl s es),some a,some b=>if s'=s∧es.length=n∧a≤b∧b≤n then some (.own so.length (b - a),so.set k .dead++[.sl s ((es.take b).drop a)]) else none
 | _,_,_,_=>none
theorem vSlice_own (t:TypeId) (k n:Nat) (lo hi:Option D):vSlice T so t (.own k n) lo hi=cutO so k n (elemSize T t) so[k]? (optD lo 0) (optD hi n):=by
 simp only [vSlice]
 cases so[k]? with
 | none=>cases elemSize T t <;> rfl
 | some ob =>
   cases ob with
   | sl s es =>
     cases he:elemSize T t with
     | none=>rfl
     | some s' =>
       cases h1:optD lo 0 with
       | none=>simp [cutO]
       | some a =>
         cases h2:optD hi n with
         | none=>simp [cutO]
         | some b =>
           simp only [cutO,Option.some.injEq]
           by_cases c1:s'=s <;> by_cases c2:es.length=n <;> by_cases c3:a≤b∧b≤n <;> simp [c1,c2,c3]
           all_goals (intro h3 h4;exact absurd ⟨h3,h4⟩ c3)
   | _=>cases elemSize T t <;> rfl
theorem cutO_some (k n s:Nat) (es:List (List D)) (a b:Nat) (h:es.length=n) (h1:a≤b) (h2:b≤n):cutO so k n (some s) (some (.sl s es)) (some a) (some b)=some (.own so.length (b - a),so.set k .dead++[.sl s ((es.take b).drop a)]):=by
 simp only [cutO,h,h1,h2,and_self,if_true]
theorem optD_none (d:Nat):optD none d=some d:=Eq.trans rfl rfl
theorem optD_some (x:D) (d:Nat):optD (some x) d=natI x:=Eq.trans rfl rfl
/-! ### Handing back -/
theorem resD_nil:resD T st []=some []:=Eq.trans rfl rfl
theorem resD_tmp (t:Tmp) (rs:List ResultVar):resD T st (.tmp t::rs)=(resD T st rs).map (tget st.tm t::·):=Eq.trans rfl rfl
theorem resD_cell (p:Tmp) (t:TypeId) (rs:List ResultVar):resD T st (.cell p t::rs)=consO (vLoad T st.so t (tget st.tm p)) (resD T st rs):=by
 simp only [resD]
 cases vLoad T st.so t (tget st.tm p) with
 | none=>rfl
 | some d=>simp only;cases resD T st rs <;> rfl
theorem retP_some (R:D→Prop) (ds:List D):RetP R so (some ds)=(match outR so ds with | some ds'=>R (packD ds') | none=>False):=Eq.trans rfl rfl
def RetO (R:D→Prop):Option (List D)→Prop
 | some ds=>R (packD ds)
 | none=>False
theorem retP_eq (R:D→Prop) (ds:List D):RetP R so (some ds)=RetO R (outR so ds):=by rw [retP_some];cases outR so ds <;> rfl
theorem retO_some (R:D→Prop) (ds:List D):RetO R (some ds)=R (packD ds):=Eq.trans rfl rfl
theorem retM_some (R:D→List Ob→Prop) (ds:List D):RetM R so (some ds)=R (packD ds) so:=Eq.trans rfl rfl
theorem outR_nil:outR so []=some []:=Eq.trans rfl rfl
def outRO (ds:List D):Option (D×List Ob)→Option (List D)
 | some (d,so)=>(outR so ds).map (d::·)
 | none=>none
theorem outR_cons (d:D) (ds:List D):outR so (d::ds)=outRO ds (outA so d):=by
 simp only [outR,outRO];cases outA so d <;> rfl
theorem outRO_some (ds:List D) (d:D):outRO ds (some (d,so))=(outR so ds).map (d::·):=Eq.trans rfl rfl
def outAO:Option (List D×List Ob)→Option (D×List Ob)
 | some (ds,so)=>some (.agg ds,so)
 | none=>none
theorem outA_agg (ds:List D):outA so (.agg ds)=outAO (outs so ds):=by simp only [outA,outAO];rfl
theorem outAO_some (ds:List D):outAO (some (ds,so))=some (.agg ds,so):=Eq.trans rfl rfl
theorem outA_atom (v:V):outA so (.atom v)=some (.atom v,so):=Eq.trans rfl rfl
theorem outA_imm (s:Nat) (es:List (List D)):outA so (.imm s es)=some (.imm s es,so):=Eq.trans rfl rfl
theorem outA_own (k n:Nat):outA so (.own k n)=o0 so k n so[k]?:=out0_own k n
theorem outA_iface (t:TypeId) (d:D) (h:D.nl d=true):outA so (.iface t d)=some (.iface t d,so):=out0_iface t d h
theorem outA_fn (f:FuncId) (u w:List D) (h:nlL u=true) (h':nlL w=true):outA so (.fn f u w)=some (.fn f u w,so):=out0_fn f u w h h'
theorem packD_one (d:D):packD [d]=d:=Eq.trans rfl rfl
theorem packD_nil:packD []=.tuple []:=Eq.trans rfl rfl
theorem packD_two (a b:D) (l:List D):packD (a::b::l)=.tuple (a::b::l):=Eq.trans rfl rfl
theorem argsTm_nil (i:Nat):argsTm i []=[]:=Eq.trans rfl rfl
theorem argsTm_cons (i:Nat) (d:D) (ds:List D):argsTm i (d::ds)=(i,d)::argsTm (i+1) ds:=Eq.trans rfl rfl
/-! ### Taking in -/
theorem inD_fresh (s:Nat) (es:List (List D)):inD so (.fresh s es)=(.own so.length es.length,so++[.sl s es]):=Eq.trans rfl rfl
theorem inD_atom (v:V):inD so (.atom v)=(.atom v,so):=Eq.trans rfl rfl
theorem inD_imm (s:Nat) (es:List (List D)):inD so (.imm s es)=(.imm s es,so):=Eq.trans rfl rfl
theorem inD_tuple (ds:List D):inD so (.tuple ds)=(.tuple (inT so ds).1,(inT so ds).2):=Eq.trans rfl rfl
theorem inD_agg (ds:List D):inD so (.agg ds)=(.agg (inL so ds).1,(inL so ds).2):=Eq.trans rfl rfl
theorem inD_fn (f:FuncId) (u w:List D):inD so (.fn f u w)=(.fn f u w,so):=Eq.trans rfl rfl
theorem inD_iface (t:TypeId) (d:D):inD so (.iface t d)=(.iface t d,so):=Eq.trans rfl rfl
theorem inT_nil:inT so []=([],so):=Eq.trans rfl rfl
theorem inT_cons (d:D) (ds:List D):inT so (d::ds)=((inA so d).1::(inT (inA so d).2 ds).1,(inT (inA so d).2 ds).2):=Eq.trans rfl rfl
theorem inL_nil:inL so []=([],so):=Eq.trans rfl rfl
theorem inL_cons (d:D) (ds:List D):inL so (d::ds)=((in0 so d).1::(inL (in0 so d).2 ds).1,(inL (in0 so d).2 ds).2):=Eq.trans rfl rfl
theorem inA_agg (ds:List D):inA so (.agg ds)=(.agg (inL so ds).1,(inL so ds).2):=Eq.trans rfl rfl
theorem inA_fresh (s:Nat) (es:List (List D)):inA so (.fresh s es)=(.own so.length es.length,so++[.sl s es]):=Eq.trans rfl rfl
theorem inA_atom (v:V):inA so (.atom v)=(.atom v,so):=Eq.trans rfl rfl
theorem inA_imm (s:Nat) (es:List (List D)):inA so (.imm s es)=(.imm s es,so):=Eq.trans rfl rfl
theorem inA_fn (f:FuncId) (u w:List D):inA so (.fn f u w)=(.fn f u w,so):=Eq.trans rfl rfl
theorem inA_iface (t:TypeId) (d:D):inA so (.iface t d)=(.iface t d,so):=Eq.trans rfl rfl
theorem in0_fresh (s:Nat) (es:List (List D)):in0 so (.fresh s es)=(.own so.length es.length,so++[.sl s es]):=Eq.trans rfl rfl
theorem in0_atom (v:V):in0 so (.atom v)=(.atom v,so):=Eq.trans rfl rfl
theorem in0_imm (s:Nat) (es:List (List D)):in0 so (.imm s es)=(.imm s es,so):=Eq.trans rfl rfl
theorem okI_atom (v:V):okI (.atom v)=true:=Eq.trans rfl rfl
theorem okI_fresh (s:Nat) (es:List (List D)):okI (.fresh s es)=true:=Eq.trans rfl rfl
theorem okI_imm (s:Nat) (es:List (List D)):okI (.imm s es)=true:=Eq.trans rfl rfl
theorem okI_agg (ds:List D):okI (.agg ds)=ds.all ok0:=Eq.trans rfl rfl
theorem okI_tuple (ds:List D):okI (.tuple ds)=ds.all okA:=Eq.trans rfl rfl
theorem okI_fn (f:FuncId) (u w:List D):okI (.fn f u w)=(nfL u && nfL w):=Eq.trans rfl rfl
theorem okI_iface (t:TypeId) (d:D):okI (.iface t d)=D.nf d:=Eq.trans rfl rfl
theorem okA_agg (ds:List D):okA (.agg ds)=ds.all ok0:=Eq.trans rfl rfl
theorem okA_atom (v:V):okA (.atom v)=true:=Eq.trans rfl rfl
theorem okA_fresh (s:Nat) (es:List (List D)):okA (.fresh s es)=true:=Eq.trans rfl rfl
theorem okA_imm (s:Nat) (es:List (List D)):okA (.imm s es)=true:=Eq.trans rfl rfl
theorem okA_fn (f:FuncId) (u w:List D):okA (.fn f u w)=(nfL u && nfL w):=Eq.trans rfl rfl
theorem ok0_atom (v:V):ok0 (.atom v)=true:=Eq.trans rfl rfl
theorem ok0_fresh (s:Nat) (es:List (List D)):ok0 (.fresh s es)=true:=Eq.trans rfl rfl
theorem ok0_imm (s:Nat) (es:List (List D)):ok0 (.imm s es)=true:=Eq.trans rfl rfl
theorem ok0_fn (f:FuncId) (u w:List D):ok0 (.fn f u w)=(nfL u && nfL w):=Eq.trans rfl rfl
/-! ### Snapshots -/
def imO (n:Nat):Option Ob→D
 | some (.sl s es)=>if es.length=n then .imm s (imLL es) else .unk
 | _=>.unk
theorem im1_own (k n:Nat):im1 so (.own k n)=imO n so[k]?:=by simp only [im1,imN,imQ,imO];rfl
theorem imN_own (k n:Nat):imN so (.own k n)=imO n so[k]?:=by simp only [imN,imQ,imO];rfl
theorem imQ_own (k n:Nat):imQ so (.own k n)=imO n so[k]?:=by simp only [imQ,imO];rfl
theorem imO_sl (n s:Nat) (es:List (List D)) (h:es.length=n):imO n (some (.sl s es))=.imm s (imLL es):=by simp only [imO,if_pos h]
theorem im1_atom (v:V):im1 so (.atom v)=.atom v:=Eq.trans rfl rfl
theorem im1_imm (s:Nat) (es:List (List D)):im1 so (.imm s es)=.imm s es:=Eq.trans rfl rfl
theorem im1_iptr (cs:List D) (o:Nat):im1 so (.iptr cs o)=.iptr cs o:=Eq.trans rfl rfl
theorem im1_agg (ds:List D):im1 so (.agg ds)=.agg (ds.map (imN so)):=Eq.trans rfl rfl
theorem im1_fn (f:FuncId) (u w:List D):im1 so (.fn f u w)=.fn f (u.map (imN so)) (w.map (imN so)):=Eq.trans rfl rfl
theorem im1_iface (t:TypeId) (d:D):im1 so (.iface t d)=.iface t (imN so d):=Eq.trans rfl rfl
theorem imN_atom (v:V):imN so (.atom v)=.atom v:=Eq.trans rfl rfl
theorem imN_imm (s:Nat) (es:List (List D)):imN so (.imm s es)=.imm s es:=Eq.trans rfl rfl
theorem imN_iptr (cs:List D) (o:Nat):imN so (.iptr cs o)=.iptr cs o:=Eq.trans rfl rfl
theorem imQ_atom (v:V):imQ so (.atom v)=.atom v:=Eq.trans rfl rfl
theorem imQ_imm (s:Nat) (es:List (List D)):imQ so (.imm s es)=.imm s es:=Eq.trans rfl rfl
def imC (so:List Ob) (c:Nat):Option Ob→D
 | some (.cell cs)=>.iptr (cs.map (imQ so)) c
 | _=>.unk
theorem im1_rptr (k c:Nat):im1 so (.rptr k c)=imC so c so[k]?:=by simp only [im1,imN,imC];rfl
theorem imN_rptr (k c:Nat):imN so (.rptr k c)=imC so c so[k]?:=by simp only [imN,imC];rfl
theorem imC_cell (c:Nat) (cs:List D):imC so c (some (.cell cs))=.iptr (cs.map (imQ so)) c:=Eq.trans rfl rfl
def imE (c:Nat):Option (List D)→D
 | some e=>.iptr (imL e) c
 | none=>.unk
def imP (n j c:Nat):Option Ob→D
 | some (.sl s es)=>if es.length=n then imE c es[j]? else .unk
 | _=>.unk
theorem im1_optr (k n j c:Nat):im1 so (.optr k n j c)=imP n j c so[k]?:=by
 simp only [im1,imN,imQ,imP,imE];rfl
theorem imP_sl (n j c s:Nat) (es:List (List D)) (h:es.length=n):imP n j c (some (.sl s es))=imE c es[j]?:=by simp only [imP,if_pos h]
theorem imE_some (c:Nat) (e:List D):imE c (some e)=.iptr (imL e) c:=Eq.trans rfl rfl
theorem imLL_map {α:Type} {f:α→List D} (h:∀ x,imL (f x)=f x):∀ xs:List α,imLL (xs.map f)=xs.map f
 | []=>rfl
 | x::xs=>by simp [imLL,h x,imLL_map h xs]
/-! ### Forgetting -/
def belL (m:Nat):List D→Bool
 | []=>true
 | d::ds=>(match d with
   | .own k _=>Nat.blt k m
   | .optr k _ _ _=>Nat.blt k m
   | .rptr k _=>Nat.blt k m
   | .omap k=>Nat.blt k m
   | d=>D.nl d) && belL m ds
def bel (m:Nat):D→Bool
 | .agg ds=>belL m ds
 | .tuple ds=>belL m ds
 | .fn f u w=>belL m u && belL m w
 | .iface t d=>belL m [d]
 | d=>belL m [d]
theorem belL_ok {m:Nat}:∀ {ds:List D} {vs:List V},RL P H μ ds vs []→belL m ds=true→RL P H (μ.take m) ds vs []
 | [],vs,h,_=>by obtain ⟨rfl,_⟩:=h.nil_inv;exact .nil
 | d::ds,vs,h,hb=>by
   simp only [belL,Bool.and_eq_true] at hb;obtain ⟨v,vs',G1,G2,rfl,hF,q1,q2⟩:=h.uncons;have hF':=hF.symm;rw [List.append_eq_nil_iff] at hF';rw [hF'.1] at q1;rw [hF'.2] at q2;have ih:=belL_ok q2 hb.2
   have one:RL P H (μ.take m) [d] [v] []:=by
    have low:∀ {k:Nat},Nat.blt k m=true→(μ.take m)[k]?=μ[k]?:=fun hk=>by
     rw [Nat.blt_eq] at hk;rw [List.getElem?_take,if_pos hk]
    have hb1:=hb.1
    cases d with
    | own k n=>obtain ⟨_,x,hx,hc⟩:=q1.ownInv;exact .own (by rw [low hb1];exact hx) hc .nil
    | optr k n j c=>obtain ⟨_,x,hx,hc⟩:=q1.optrInv;exact .optr (by rw [low hb1];exact hx) hc .nil
    | rptr k c=>obtain ⟨_,x,hx,hc⟩:=q1.rptrInv;exact .rptr (by rw [low hb1];exact hx) hc .nil
    | omap k=>obtain ⟨_,x,hx,hc⟩:=q1.omapInv;exact .omap (by rw [low hb1];exact hx) hc .nil
    | _=>exact q1.nl (by simpa [nlL] using hb1)
   simpa using one.cons ih
theorem bel_ok {m:Nat} (h:RL P H μ [d] [v] []) (hb:bel m d=true):RL P H (μ.take m) [d] [v] []:=by
 cases d with
 | agg ds=>obtain ⟨ws,rfl,q⟩:=h.aggInv;exact (belL_ok q hb).agg1
 | tuple ds=>obtain ⟨ws,rfl,q⟩:=h.tupleInv;exact (belL_ok q hb).tuple1
 | iface t d=>obtain ⟨w,rfl,q⟩:=h.ifaceInv;exact (belL_ok q hb).iface1
 | fn f u w =>
   obtain ⟨us,ws,F1,F2,rfl,hF,r1,r2⟩:=h.fnInv;have hF':=hF.symm;rw [List.append_eq_nil_iff] at hF';rw [hF'.1] at r1;rw [hF'.2] at r2;simp only [bel,Bool.and_eq_true] at hb;exact (belL_ok r1 hb.1).fn1 (belL_ok r2 hb.2)
 | _=>exact belL_ok h hb
def leT (tm:List (Nat×D)) (m:Nat):List (Nat×D)→Prop
 | []=>True
 | (t,d)::l=>(tget tm t=d∧bel m d=true)∧leT tm m l
theorem leT_nil (m:Nat):leT tm m []=True:=Eq.trans rfl rfl
theorem leT_cons (m t:Nat) (d:D) (l:List (Nat×D)):leT tm m ((t,d)::l)=((tget tm t=d∧bel m d=true)∧leT tm m l):=Eq.trans rfl rfl
def nlM (ms:List (V×D)):Bool:=nlL (ms.map (·.2))
def belO (m:Nat):Ob→Bool
 | .cell cs=>belL m cs
 | .sl _ es=>nlR es
 | .mp ms=>nlM ms
 | _=>true
def belC (m:Nat):List D→Bool
 | []=>true
 | .fn _ u w::ds=>(belL m u && belL m w) && belC m ds
 | d::ds=>belL m [d] && belC m ds
theorem belC_ok {m:Nat}:∀ {ds:List D} {vs:List V},RL P H μ ds vs []→belC m ds=true→RL P H (μ.take m) ds vs []
 | [],vs,h,_=>by obtain ⟨rfl,_⟩:=h.nil_inv;exact .nil
 | d::ds,vs,h,hb=>by
   obtain ⟨v,vs',G1,G2,rfl,hF,q1,q2⟩:=h.uncons;have hF':=hF.symm;rw [List.append_eq_nil_iff] at hF';rw [hF'.1] at q1;rw [hF'.2] at q2
   have hb2:bel m d=true∨belL m [d]=true:=by
    cases d with
    | fn f u w=>simp only [belC,Bool.and_eq_true] at hb;exact .inl (by simp [bel,hb.1])
    | _=>simp only [belC,Bool.and_eq_true] at hb;exact .inr hb.1
   have hb3:belC m ds=true:=by cases d <;> simp only [belC,Bool.and_eq_true] at hb <;> exact hb.2
   have one:RL P H (μ.take m) [d] [v] []:=hb2.elim (bel_ok q1) (belL_ok q1);simpa using one.cons (belC_ok q2 hb3)
def belP (m:Nat):Ob→Bool
 | .cell cs=>belC m cs
 | .sl _ es=>nlR es
 | .mp ms=>nlM ms || belL m (ms.map (·.2))
 | _=>true
def leS (m:Nat):List Ob→List Ob→Prop
 | _,[]=>True
 | y::ys,x::xs=>(y=x∧belP m x=true)∧leS m ys xs
 | [],_::_=>False
theorem leS_nil (m:Nat):leS m so []=True:=by cases so <;> rfl
theorem leS_cons (m:Nat) (x y:Ob) (xs ys:List Ob):leS m (y::ys) (x::xs)=((y=x∧belP m x=true)∧leS m ys xs):=Eq.trans rfl rfl
theorem leT_get {m:Nat}:∀ {l:List (Nat×D)},leT tm m l→∀ t,tget l t=.unk∨(tget l t=tget tm t∧bel m (tget l t)=true)
 | [],_,t=>.inl rfl
 | (i,d)::l,h,t=>by
   obtain ⟨⟨h1,h2⟩,h3⟩:=h;simp only [tget];split
   ·rename_i e;subst e;exact .inr ⟨h1.symm,h2⟩
   ·exact leT_get h3 t
theorem leS_split {m:Nat}:∀ {so so':List Ob},leS m so so'→(∃ rest,so=so'++rest)∧∀ x,x∈so'→belP m x=true
 | so,[],_=>⟨⟨so,rfl⟩,by simp⟩
 | [],_::_,h=>h.elim
 | y::ys,x::xs,h=>by
   obtain ⟨⟨rfl,h2⟩,h3⟩:=h;obtain ⟨⟨rest,e⟩,h4⟩:=leS_split h3;exact ⟨⟨rest,by rw [e];rfl⟩,fun z hz=>by rcases List.mem_cons.1 hz with rfl | hz;exact h2;exact h4 z hz⟩
def leQ (tm:List (Nat×D)):List (Nat×D)→Prop
 | []=>True
 | (t,d)::l=>tget tm t=d∧leQ tm l
theorem leQ_nil:leQ tm []=True:=Eq.trans rfl rfl
theorem leQ_cons (t:Nat) (d:D) (l:List (Nat×D)):leQ tm ((t,d)::l)=(tget tm t=d∧leQ tm l):=Eq.trans rfl rfl
theorem le_of {tm':List (Nat×D)} {n':Nat} (hg:g.μ0.length≤so'.length) (hn:n=n') (h1:leT tm so'.length tm') (h2:leS so'.length so so'):Le g ⟨tm,so,n⟩ ⟨tm',so',n'⟩:=by
 subst hn;intro a H P μ F r;obtain ⟨⟨rest,rfl⟩,hb⟩:=leS_split h2;obtain ⟨x1,x2,F1,F2,rfl,rfl,o1,o2⟩:=r.obs.split;have hl:x1.length=so'.length:=o1.len;have htk:(x1++x2).take so'.length=x1:=by rw [← hl];simp
 have cells:∀ {hs:List Hd} {obs:List Ob} {F:List Nat},OL P H (x1++x2) hs obs F→(∀ x,x∈obs→belP so'.length x=true)→OL P H x1 hs obs F:=by
  intro hs obs F h
  induction h with
  | nil=>exact fun _=>.nil
  | dead h ih=>exact fun hb=>.dead (ih fun x hx=>hb x (by simp [hx]))
  | ghost s kk e h ih=>exact fun hb=>.ghost s kk e (ih fun x hx=>hb x (by simp [hx]))
  | slNil h ih=>exact fun hb=>.slNil (ih fun x hx=>hb x (by simp [hx]))
  | @sl l s q pre ws rest es hs obs F G g r e u c h ih =>
    intro hb;have hn:nlR es=true:=hb (.sl s es) (by simp);exact .sl g (r.nl (by rw [nlR_flatten];exact hn)) e u c (ih fun x hx=>hb x (by simp [hx]))
  | cell g r h ih =>
    intro hb;have:=belC_ok r (show belC so'.length _=true from hb (.cell _) (by simp));rw [htk] at this;exact .cell g this (ih fun x hx=>hb x (by simp [hx]))
  | @mp l es ms hs obs G g e r h ih =>
    intro hb;have hn:belP so'.length (.mp ms)=true:=hb (.mp ms) (by simp);simp only [belP,Bool.or_eq_true] at hn;refine .mp g e ?_ (ih fun x hx=>hb x (by simp [hx]));rcases hn with hn | hn
    ·exact r.nl hn
    ·have:=belL_ok r hn;rw [htk] at this;exact this
 have m:∀ l,l∈[]++F1→l∈[]++(F1++F2):=fun l h=>by simp only [List.nil_append] at h ⊢;simp [h]
 refine ⟨P,x1,F1,{ wf:=r.wf,nt:=r.nt,nd:=r.nd.same m,tms:=fun t=>?_,obs:=cells o1 hb,nodup:=?_,apart:=fun l h=>r.apart l (m l h),old:=fun l h=>r.old l (m l h),lt:=fun l h=>r.lt l (m l h),p1:=r.p1,p2:=r.p2,pl:=r.pl,ext:=r.ext,gl:=?_ }⟩
 ·rcases leT_get h1 t with e | ⟨e,hb⟩
  ·simp only [e];exact .unk .nil
  ·have h3:=r.tms t;simp only at h3;rw [← e] at h3;have:=bel_ok h3 hb;rw [htk] at this;exact this
 ·have:=r.nodup;simp only [List.nil_append] at this ⊢;exact (List.nodup_append.1 this).1
 ·intro k h e;obtain ⟨h',e1,g1⟩:=r.gl k h e;have hk:k<x1.length:=by have:=get_lt e;omega
  rw [List.getElem?_append_left hk] at e1;exact ⟨h',e1,g1⟩
theorem le_of2 {tm':List (Nat×D)} {n':Nat} (hg:g.μ0.length≤so'.length) (hn:n=n') (h:leT tm so'.length tm'∧leS so'.length so so'):Le g ⟨tm,so,n⟩ ⟨tm',so',n'⟩:=le_of hg hn h.1 h.2
theorem belL_nil (m:Nat):belL m []=true:=Eq.trans rfl rfl
theorem blt_dec (k m:Nat):Nat.blt k m=decide (k<m):=by
 by_cases h:k<m
 ·simp only [h,decide_true];rw [Nat.blt_eq];exact h
 ·simp only [h,decide_false]
  cases hb:Nat.blt k m
  ·rfl
  ·rw [Nat.blt_eq] at hb;exact absurd hb h
theorem belL_own (m k n:Nat) (ds:List D):belL m (.own k n::ds)=(decide (k<m) && belL m ds):=by simp only [belL,blt_dec]
theorem belL_optr (m k n j c:Nat) (ds:List D):belL m (.optr k n j c::ds)=(decide (k<m) && belL m ds):=by simp only [belL,blt_dec]
theorem belL_rptr (m k c:Nat) (ds:List D):belL m (.rptr k c::ds)=(decide (k<m) && belL m ds):=by simp only [belL,blt_dec]
theorem belL_omap (m k:Nat) (ds:List D):belL m (.omap k::ds)=(decide (k<m) && belL m ds):=by simp only [belL,blt_dec]
theorem bel_omap (m k:Nat):bel m (.omap k)=decide (k<m):=by simp [bel,belL_omap,belL_nil]
theorem belC_omap (m k:Nat) (ds:List D):belC m (.omap k::ds)=(decide (k<m) && belC m ds):=by simp [belC,belL_omap,belL_nil]
theorem belL_atom (m:Nat) (v:V) (ds:List D):belL m (.atom v::ds)=belL m ds:=by simp [belL,D.nl]
theorem belL_imm (m s:Nat) (es:List (List D)) (ds:List D):belL m (.imm s es::ds)=belL m ds:=by simp [belL,D.nl]
theorem belL_iptr (m o:Nat) (cs:List D) (ds:List D):belL m (.iptr cs o::ds)=belL m ds:=by simp [belL,D.nl]
theorem bel_own (m k n:Nat):bel m (.own k n)=decide (k<m):=by simp [bel,belL_own,belL_nil]
theorem bel_optr (m k n j c:Nat):bel m (.optr k n j c)=decide (k<m):=by simp [bel,belL_optr,belL_nil]
theorem bel_rptr (m k c:Nat):bel m (.rptr k c)=decide (k<m):=by simp [bel,belL_rptr,belL_nil]
theorem bel_atom (m:Nat) (v:V):bel m (.atom v)=true:=by simp [bel,belL_atom,belL_nil]
theorem bel_imm (m s:Nat) (es:List (List D)):bel m (.imm s es)=true:=by simp [bel,belL_imm,belL_nil]
theorem bel_iptr (m o:Nat) (cs:List D):bel m (.iptr cs o)=true:=by simp [bel,belL_iptr,belL_nil]
theorem bel_agg (m:Nat) (ds:List D):bel m (.agg ds)=belL m ds:=Eq.trans rfl rfl
theorem bel_tuple (m:Nat) (ds:List D):bel m (.tuple ds)=belL m ds:=Eq.trans rfl rfl
theorem bel_fn (m:Nat) (f:FuncId) (u w:List D):bel m (.fn f u w)=(belL m u && belL m w):=Eq.trans rfl rfl
theorem bel_iface (m:Nat) (t:TypeId) (d:D):bel m (.iface t d)=belL m [d]:=Eq.trans rfl rfl
theorem belC_nil (m:Nat):belC m []=true:=Eq.trans rfl rfl
theorem belC_own (m k n:Nat) (ds:List D):belC m (.own k n::ds)=(decide (k<m) && belC m ds):=by simp [belC,belL_own,belL_nil]
theorem belC_optr (m k n j c:Nat) (ds:List D):belC m (.optr k n j c::ds)=(decide (k<m) && belC m ds):=by simp [belC,belL_optr,belL_nil]
theorem belC_rptr (m k c:Nat) (ds:List D):belC m (.rptr k c::ds)=(decide (k<m) && belC m ds):=by simp [belC,belL_rptr,belL_nil]
theorem belC_atom (m:Nat) (v:V) (ds:List D):belC m (.atom v::ds)=belC m ds:=by simp [belC,belL_atom,belL_nil]
theorem belC_imm (m s:Nat) (es:List (List D)) (ds:List D):belC m (.imm s es::ds)=belC m ds:=by simp [belC,belL_imm,belL_nil]
theorem belC_iptr (m o:Nat) (cs:List D) (ds:List D):belC m (.iptr cs o::ds)=belC m ds:=by simp [belC,belL_iptr,belL_nil]
theorem belC_fn (m:Nat) (f:FuncId) (u w ds:List D):belC m (.fn f u w::ds)=((belL m u && belL m w) && belC m ds):=Eq.trans rfl rfl
theorem belP_cell (m:Nat) (cs:List D):belP m (.cell cs)=belC m cs:=Eq.trans rfl rfl
theorem belP_sl (m s:Nat) (es:List (List D)):belP m (.sl s es)=nlR es:=Eq.trans rfl rfl
theorem keyOk_str (kt:TypeId) (h:isStr T kt=true) (s:List UInt8):keyOk T kt (.str s)=true:=by
 unfold isStr at h;unfold keyOk;split at h
 ·rename_i e;rw [e]
 ·cases h
def intT (T:Tab) (t:TypeId):Option IntKind:=
 match T.und t with
 | some (.int k)=>some k
 | _=>none
theorem keyOk_int (kt:TypeId) (k:IntKind) (h:intT T kt=some k) (n:Int):keyOk T kt (.int k n)=true:=by
 unfold intT at h;unfold keyOk;split at h
 ·rename_i e;cases h;rw [e];simp
 ·cases h
theorem nlM_nil:nlM []=true:=Eq.trans rfl rfl
theorem nlM_cons (k:V) (d:D) (ms:List (V×D)):nlM ((k,d)::ms)=(D.nl d && nlM ms):=by simp only [nlM,List.map_cons,nlL]
theorem nlM_append (ms ns:List (V×D)):nlM (ms++ns)=(nlM ms && nlM ns):=by simp only [nlM,List.map_append,nlL_append]
theorem nlM_map {α:Type} {f:α→V×D} (h:∀ x,D.nl (f x).2=true):∀ xs:List α,nlM (xs.map f)=true
 | []=>rfl
 | x::xs=>by rw [List.map_cons,show f x=((f x).1,(f x).2) from rfl,nlM_cons,h x,nlM_map h xs];rfl
theorem belP_mp (m:Nat) (ms:List (V×D)):belP m (.mp ms)=(nlM ms || belL m (ms.map (·.2))):=Eq.trans rfl rfl
theorem belO_mp (m:Nat) (ms:List (V×D)):belO m (.mp ms)=nlM ms:=Eq.trans rfl rfl
theorem nl_unk:D.nl .unk=true:=by simp only [D.nl]
theorem vop_makeMap (t:TypeId):vop T st (.makeMap t none)=.val (.omap st.so.length) (st.so++[.mp []]):=Eq.trans rfl rfl
theorem vop_lookup (t:TypeId) (x i:Operand) (ok:Bool):vop T st (.lookup t x i ok)=ev1 st x fun m=>ev1 st i fun k=>.ofD st.so (vLookup T st.so t ok m k):=Eq.trans rfl rfl
theorem vop_mapUpdate (t:TypeId) (m k x:Operand):vop T st (.mapUpdate t m k x)=ev1 st m fun m=>ev1 st k fun k=>ev1 st x fun d=>.ofS (vUpd T st.so t m k d):=Eq.trans rfl rfl
theorem vop_insert (t:TypeId) (m k x:Operand):vop T st (.insert t m k x)=ev1 st m fun m=>ev1 st k fun k=>ev1 st x fun d=>.ofS (vUpd T st.so t m k d):=Eq.trans rfl rfl
def lkO (T:Tab) (so:List Ob) (ok:Bool) (m:D) (kv:V):Option (TypeId×TypeId)→Option D
 | some (kt,et)=>lkp T so kt et ok m kv
 | none=>none
theorem vLookup_atom (t:TypeId) (ok:Bool) (m:D) (kv:V):vLookup T so t ok m (.atom kv)=lkO T so ok m kv (mapT T t):=by
 simp only [vLookup,keyV,lkO];cases mapT T t <;> rfl
theorem lkO_some (ok:Bool) (m:D) (kv:V) (kt et:TypeId):lkO T so ok m kv (some (kt,et))=lkp T so kt et ok m kv:=Eq.trans rfl rfl
theorem lkp_ok (kt et:TypeId) (ok:Bool) (m:D) (k:V) (h:keyOk T kt k=true):lkp T so kt et ok m k=vHit T et ok (mapO so k m):=by simp only [lkp,if_pos h]
def mapS (k:V):Option Ob→Option (Option D)
 | some (.mp ms)=>vFind k ms
 | _=>none
theorem mapO_omap (k:V) (j:Nat):mapO so k (.omap j)=mapS k so[j]?:=by simp only [mapO,mapS];rfl
theorem mapO_nil (k:V):mapO so k (.atom .nilMap)=some none:=Eq.trans rfl rfl
theorem mapS_mp (k:V) (ms:List (V×D)):mapS k (some (.mp ms))=vFind k ms:=Eq.trans rfl rfl
theorem vHit_some (et:TypeId) (ok:Bool) (d:D):vHit T et ok (some (some d))=some (cond ok (.tuple [d,.atom (.bool true)]) d):=Eq.trans rfl rfl
theorem vHit_none (et:TypeId) (ok:Bool):vHit T et ok (some none)=(T.zeroV et).map fun z=>cond ok (.tuple [cD z,.atom (.bool false)]) (cD z):=Eq.trans rfl rfl
def upO (T:Tab) (so:List Ob) (j:Nat) (kv:V) (x:D):Option (TypeId×TypeId)→Option (List Ob)
 | some (kt,_)=>mapU T so kt j kv x so[j]?
 | none=>none
theorem vUpd_omap (t:TypeId) (j:Nat) (kv:V) (x:D):vUpd T so t (.omap j) (.atom kv) x=upO T so j kv x (mapT T t):=by
 simp only [vUpd,keyV,upO];cases mapT T t <;> rfl
theorem upO_some (j:Nat) (kv:V) (x:D) (kt et:TypeId):upO T so j kv x (some (kt,et))=mapU T so kt j kv x so[j]?:=Eq.trans rfl rfl
theorem mapU_ok (kt:TypeId) (j:Nat) (k:V) (x:D) (ms:List (V×D)) (h:keyOk T kt k=true):mapU T so kt j k x (some (.mp ms))=(vSet k x ms).map fun ms'=>so.set j (.mp ms'):=by simp only [mapU,if_pos h]
theorem vLens_map (t:TypeId) (j:Nat) (h:isMap T t=true):vLens T so t (.omap j)=.ofD so (lenM so[j]?):=by
 have:isSlice T t=false:=by
  unfold isMap at h;unfold isSlice;split at h
  ·rename_i e;rw [e]
  ·cases h
 simp only [vLens,this,h,if_true,Bool.false_eq_true,if_false]
theorem lenM_mp (ms:List (V×D)):lenM (some (.mp ms))=some (.atom (.int .i64 (ms.length:Int))):=Eq.trans rfl rfl
def aMp:Option Ob→Bool
 | some (.mp _)=>true
 | _=>false
theorem okD_omap (k:Nat):okD so (.omap k)=aMp so[k]?:=by simp only [okD,aliveM,aMp];rfl
theorem aMp_mp (ms:List (V×D)):aMp (some (.mp ms))=true:=Eq.trans rfl rfl
theorem im1_omap (k:Nat):im1 so (.omap k)=.unk:=Eq.trans rfl rfl
theorem imN_omap (k:Nat):imN so (.omap k)=.unk:=Eq.trans rfl rfl
theorem imQ_omap (k:Nat):imQ so (.omap k)=.unk:=Eq.trans rfl rfl
theorem nf_omap (k:Nat):D.nf (.omap k)=true:=by simp only [D.nf]
theorem nl_omap (k:Nat):D.nl (.omap k)=false:=by simp only [D.nl]
theorem cellsD_omap (k:Nat):cellsD so (.omap k)=if okD so (.omap k) then some [.omap k] else none:=Eq.trans rfl rfl
theorem zero_str_key {xs:List (List UInt8)} {d:D} (k:List UInt8):vFind (.str k) (xs.map fun x=>(V.str x,d))=some (if k∈xs then some d else none):=by
 induction xs with
 | nil=>rfl
 | cons x xs ih =>
   simp only [List.map_cons,vFind,sameCell]
   by_cases h:k=x
   ·subst h;simp
   ·have:(k == x)=false:=by simpa using h
    rw [this];simp only [ih,List.mem_cons,h,false_or]
theorem belP_ghost (m:Nat) (K:(Nat→Prop)→List Nat→Heap→Prop):belP m (.ghost K)=true:=Eq.trans rfl rfl
theorem belP_dead (m:Nat):belP m .dead=true:=Eq.trans rfl rfl
theorem belO_cell (m:Nat) (cs:List D):belO m (.cell cs)=belL m cs:=Eq.trans rfl rfl
theorem belO_sl (m s:Nat) (es:List (List D)):belO m (.sl s es)=nlR es:=Eq.trans rfl rfl
theorem belO_dead (m:Nat):belO m .dead=true:=Eq.trans rfl rfl
theorem nf_atom (v:V):D.nf (.atom v)=true:=by simp only [D.nf]
theorem nf_imm (s:Nat) (es:List (List D)):D.nf (.imm s es)=true:=by simp only [D.nf]
theorem nf_iptr (cs:List D) (o:Nat):D.nf (.iptr cs o)=true:=by simp only [D.nf]
theorem nf_own (k n:Nat):D.nf (.own k n)=true:=by simp only [D.nf]
theorem nf_optr (k n j c:Nat):D.nf (.optr k n j c)=true:=by simp only [D.nf]
theorem nf_rptr (k c:Nat):D.nf (.rptr k c)=true:=by simp only [D.nf]
theorem nf_unk:D.nf .unk=true:=by simp only [D.nf]
theorem nf_fresh (s:Nat) (es:List (List D)):D.nf (.fresh s es)=false:=by simp only [D.nf]
theorem nf_agg (ds:List D):D.nf (.agg ds)=nfL ds:=by simp only [D.nf]
theorem nf_tuple (ds:List D):D.nf (.tuple ds)=nfL ds:=by simp only [D.nf]
theorem nf_iface (t:TypeId) (d:D):D.nf (.iface t d)=D.nf d:=by simp only [D.nf]
theorem nf_fn (f:FuncId) (u w:List D):D.nf (.fn f u w)=(nfL u && nfL w):=by simp only [D.nf]
theorem nfL_nil:nfL []=true:=by simp only [nfL]
theorem nfL_cons (d:D) (ds:List D):nfL (d::ds)=(D.nf d && nfL ds):=by simp only [nfL]
theorem nfR_nil:nfR []=true:=Eq.trans rfl rfl
theorem nfR_cons (e:List D) (es:List (List D)):nfR (e::es)=(nfL e && nfR es):=Eq.trans rfl rfl
theorem nl_atom (v:V):D.nl (.atom v)=true:=by simp only [D.nl]
theorem nl_imm (s:Nat) (es:List (List D)):D.nl (.imm s es)=true:=by simp only [D.nl]
theorem nl_iptr (cs:List D) (o:Nat):D.nl (.iptr cs o)=true:=by simp only [D.nl]
theorem nl_own (k n:Nat):D.nl (.own k n)=false:=by simp only [D.nl]
theorem nl_optr (k n j c:Nat):D.nl (.optr k n j c)=false:=by simp only [D.nl]
theorem nl_rptr (k c:Nat):D.nl (.rptr k c)=false:=by simp only [D.nl]
theorem nl_agg (ds:List D):D.nl (.agg ds)=nlL ds:=by simp only [D.nl]
theorem nl_iface (t:TypeId) (d:D):D.nl (.iface t d)=D.nl d:=by simp only [D.nl]
theorem nl_fn (f:FuncId) (u w:List D):D.nl (.fn f u w)=(nlL u && nlL w):=by simp only [D.nl]
theorem nl_fresh (s:Nat) (es:List (List D)):D.nl (.fresh s es)=true:=by simp only [D.nl]
theorem nlR_nil:nlR []=true:=Eq.trans rfl rfl
theorem nlR_cons (e:List D) (es:List (List D)):nlR (e::es)=(nlL e && nlR es):=Eq.trans rfl rfl
theorem nlR_append:∀ (a b:List (List D)),nlR (a++b)=(nlR a && nlR b)
 | [],b=>by simp [nlR]
 | e::a,b=>by simp [nlR,nlR_append a b,Bool.and_assoc]
theorem nlR_map {α:Type} {f:α→List D} (h:∀ x,nlL (f x)=true):∀ xs:List α,nlR (xs.map f)=true
 | []=>rfl
 | x::xs=>by simp [nlR,h x,nlR_map h xs]
theorem nlR_mem {es:List (List D)}:nlR es=true↔∀ e,e∈es→nlL e=true:=by
 induction es with
 | nil=>simp [nlR]
 | cons e es ih=>simp [nlR,ih]
theorem nlR_rep (n:Nat) {x:List D} (h:nlL x=true):nlR (List.replicate n x)=true:=nlR_mem.2 fun e he=>by rw [List.eq_of_mem_replicate he];exact h
theorem nlR_set {es:List (List D)} {i:Nat} {x:List D} (h:nlR es=true) (h':nlL x=true):nlR (es.set i x)=true:=nlR_mem.2 fun e he=>(List.mem_or_eq_of_mem_set he).elim (nlR_mem.1 h e) fun e=>e ▸ h'
theorem nlR_take {es:List (List D)} {i:Nat} (h:nlR es=true):nlR (es.take i)=true:=nlR_mem.2 fun e he=>nlR_mem.1 h e (List.mem_of_mem_take he)
theorem nlR_drop {es:List (List D)} {i:Nat} (h:nlR es=true):nlR (es.drop i)=true:=nlR_mem.2 fun e he=>nlR_mem.1 h e (List.mem_of_mem_drop he)
theorem nlL_nil:nlL []=true:=by simp only [nlL]
theorem nlL_cons (d:D) (ds:List D):nlL (d::ds)=(D.nl d && nlL ds):=by simp only [nlL]
theorem pr_atom (v:V):D.pr (.atom v)=true:=by simp only [D.pr]
theorem pr_fresh (s:Nat) (es:List (List D)):D.pr (.fresh s es)=prLL es:=by simp only [D.pr]
theorem pr_imm (s:Nat) (es:List (List D)):D.pr (.imm s es)=false:=by simp only [D.pr]
theorem pr_agg (ds:List D):D.pr (.agg ds)=prL ds:=by simp only [D.pr]
theorem pr_tuple (ds:List D):D.pr (.tuple ds)=prL ds:=by simp only [D.pr]
theorem pr_iface (t:TypeId) (d:D):D.pr (.iface t d)=D.pr d:=by simp only [D.pr]
theorem pr_fn (f:FuncId) (u w:List D):D.pr (.fn f u w)=(prL u && prL w):=by simp only [D.pr]
theorem prL_nil:prL []=true:=by simp only [prL]
theorem prL_cons (d:D) (ds:List D):prL (d::ds)=(D.pr d && prL ds):=by simp only [prL]
theorem prLL_nil:prLL []=true:=by simp only [prLL]
theorem prLL_cons (e:List D) (es:List (List D)):prLL (e::es)=(prL e && prLL es):=by simp only [prLL]
theorem imL_nil:imL []=[]:=by simp only [imL]
theorem imL_cons (d:D) (ds:List D):imL (d::ds)=D.im d::imL ds:=by simp only [imL]
theorem imLL_nil:imLL []=[]:=by simp only [imLL]
theorem imLL_cons (e:List D) (es:List (List D)):imLL (e::es)=imL e::imLL es:=by simp only [imLL]
theorem im_atom (v:V):D.im (.atom v)=.atom v:=by simp only [D.im]
theorem im_imm (s:Nat) (es:List (List D)):D.im (.imm s es)=.imm s es:=by simp only [D.im]
theorem im_fresh (s:Nat) (es:List (List D)):D.im (.fresh s es)=.imm s (imLL es):=by simp only [D.im]
theorem szO_eq (t:TypeId):szO T t=(sizeN T t).getD 0:=Eq.trans rfl rfl
theorem apS_eq (t:TypeId):apS T t=fstO (appOk T t t):=Eq.trans rfl rfl
theorem apB_eq (t:TypeId):apB T t=sndO (appOk T t t):=Eq.trans rfl rfl
end Go.Am.Vm

namespace Go.Am.Vm
open Go.Am
variable {T:Tab} {P P':Nat→Prop} {H H':Heap} {μ μ':List Hd} {ds es cs:List D} {vs ws us:List V} {F G X K F' X':List Nat} {d:D} {v:V} {so so':List Ob} {s n:Nat}
def aR (rows:List (List V)):List (List D):=rows.map fun r=>r.map .atom
theorem aR_flatten:∀ rows:List (List V),(aR rows).flatten=rows.flatten.map .atom
 | []=>rfl
 | r::rows=>by simp only [aR,List.map_cons,List.flatten_cons,List.map_append];rw [← aR_flatten rows];rfl
theorem aR_len (rows:List (List V)):(aR rows).length=rows.length:=by simp [aR]
theorem RL.atomsInv:∀ {ws vs:List V} {F:List Nat},RL P H μ (ws.map .atom) vs F→vs=ws∧F=[]
 | [],vs,F,h=>h.nil_inv
 | w::ws,vs,F,h=>by
   simp only [List.map_cons] at h;obtain ⟨v,vs',F1,F2,rfl,rfl,h1,h2⟩:=h.uncons;obtain ⟨rfl,rfl⟩:=RL.atomsInv h2;obtain ⟨rfl,rfl⟩:=h1.atomInv;exact ⟨rfl,rfl⟩
theorem aR_rows {rows:List (List V)} (h:∀ e,e∈aR rows→e.length=s):∀ e,e∈rows→e.length=s:=fun e he=>by
 have:=h (e.map .atom) (List.mem_map.2 ⟨e,he,rfl⟩);simpa using this
theorem rows_aR {rows:List (List V)} (h:∀ e,e∈rows→e.length=s):∀ e,e∈aR rows→e.length=s:=fun e he=>by
 obtain ⟨r,hr,rfl⟩:=List.mem_map.1 he;simpa using h r hr
theorem fresh_of_mine {rows:List (List V)} (h:Mine n H v s rows) (h1:rows.flatten.all V.one=true):∃ K,RL P H μ [.fresh s (aR rows)] [v] K∧K.Nodup∧∀ l,l∈K→n≤l∧l<H.n:=by
 rcases h.2 with ⟨rfl,rfl⟩ | ⟨l,q,pre,rest,rfl,h2,h3,h4⟩
 ·exact ⟨[],.freshNil .nil,by simp,by simp⟩
 ·have e:=aR_len rows;refine ⟨[l],?_,by simp,fun j hj=>by rw [List.mem_singleton.1 hj];exact ⟨h2,Heap.lt h3⟩⟩;rw [← e];have:=RL.fresh (P:=P) (μ:=μ) (es:=aR rows) (q:=q) (ds:=[]) (vs:=[]) (G:=[]) h3 (by rw [aR_flatten];exact RL.atoms _) (rows_aR h.1) h1 (by rw [e];exact h4) .nil;simpa using this
theorem vc_am {f:FuncId} {R:D→Prop} (h:∀ (P:Nat→Prop) (H:Heap) (vs:List V),H.WF→RL P H [] ds vs []→CallsTo T f vs H fun r H'=>(∃ d K,R d∧RL P H' [] [d] [r] K∧K.Nodup∧∀ l,l∈K→H.n≤l∧l<H'.n)∧Ext H H'):VC T f ds R:=by
 intro P H vs wf pl r;refine (h P H vs wf r).mono fun v H' ⟨⟨d,K,hd,q,nd,hk⟩,hx⟩=>⟨d,P,K,hd,q,nd,fun l hl=>⟨fun p=>?_,.inr (hk l hl).1,(hk l hl).2⟩,fun l p=>p,fun l p=>⟨.inl p,?_⟩,hx.but _⟩
 ·obtain ⟨o,e⟩:=pl l p;have h1:=(hk l hl).1;have h2:=Heap.lt e;have h3:H.n≤l:=h1;have h4:l<H.n:=h2;omega
 ·obtain ⟨o,e⟩:=pl l p;exact ⟨o,hx.get _ _ e⟩
theorem law_of {f:FuncId} {b:V} (h:VC T f ds fun d=>d=.atom b) (wf:H.WF) (hv:RL (fun l=>∃ o,H.get l=some o) H [] ds vs []):CallsTo T f vs H fun r H'=>r=b∧Ext H H':=
 (h (fun l=>∃ o,H.get l=some o) H vs wf (fun l h=>h) hv).mono fun v H' ⟨d,P',K,hd,q,_,_,_,_,hx⟩=>by
  subst hd;exact ⟨q.atomInv.2,hx.n,fun l o e=>hx.get l o (fun h=>h) e,hx.wf⟩
/-! ### Freezing: what is named is no longer written to -/
def frz0 (so:List Ob) (k:Nat) (d:D):D:=
 match d with
 | .own j n=>if j=k then imQ so (.own j n) else d
 | .optr j n i c=>if j=k then imQ so (.optr j n i c) else d
 | d=>d
def frz (so:List Ob) (k:Nat):D→D
 | .agg ds=>.agg (ds.map (frz0 so k))
 | .tuple ds=>.tuple (ds.map (frz0 so k))
 | .fn f u w=>.fn f (u.map (frz0 so k)) (w.map (frz0 so k))
 | .iface t d=>.iface t (frz0 so k d)
 | d=>frz0 so k d
def frzT (so:List Ob) (k:Nat):List (Nat×D)→List (Nat×D)
 | []=>[]
 | (t,d)::l=>(t,frz so k d)::frzT so k l
theorem frzT_get (k:Nat):∀ (l:List (Nat×D)) (t:Nat),tget (frzT so k l) t=frz so k (tget l t)∨tget (frzT so k l) t=.unk
 | [],t=>.inr rfl
 | (i,d)::l,t=>by
   simp only [frzT,tget];split
   ·exact .inl rfl
   ·exact frzT_get k l t
variable {g:Gh} {tm:List (Nat×D)} {a:A}
theorem le_frz {k:Nat} {es:List (List D)} (hB:∀ l,¬ g.B l) (hk:so[k]?=some (.sl s es)):Le g ⟨tm,so,n⟩ ⟨frzT so k tm,so.set k .dead,n⟩:=by
 intro a H P μ F r;obtain ⟨x,F1,Fk,F2,hx,rfl,o1,put⟩:=r.obs.at hk;have gl:GoesL μ (μ.set k .dead):=GoesL.set hx (Goes.dead x);have hP:∀ l,P l→(P l∨l∈Fk):=fun l h=>.inl h;have o2:=(put (fun l=>P l∨l∈Fk) H .dead .dead [] hP (.dead .nil) fun l o _ h=>h).goes gl;have r1:=r.nodup;have cnt:=List.nodup_iff_count.1 r.nodup
 have zero:∀ {d:D} {v:V},RL P H μ [d] [v] []→RL (fun l=>P l∨l∈Fk) H (μ.set k .dead) [frz0 so k d] [v] []:=by
  intro d v h;have keep:=(h.goes gl).weakP hP
  cases d with
  | own j n =>
    simp only [frz0];split
    ·rename_i e;subst e;simp only [imQ,hk];split
     ·rename_i hn;obtain ⟨_,y,hy,hc⟩:=h.ownInv;rw [hx] at hy;cases hy;rcases o1.slInv with ⟨rfl,rfl,rfl⟩ | ⟨l,q,pre,ws,rest,F',rfl,rfl,g',r',e,u1,c⟩
      ·rw [(hc _ _ _ rfl).2 (by simpa using hn.symm)];exact .immNil .nil
      ·rw [(hc _ _ _ rfl).2 hn.symm];rw [← imLL_length es];refine .imm (ws:=ws) (.inr (by simp)) g' ?_ ?_ (imLL_mem e) u1 ?_ .nil
       ·rw [imLL_length];exact take?_pre _ _ _ (by rw [← r'.len,dflatten_len e])
       ·rw [imLL_flatten];exact r'.im.weakP fun l h=>h.imp id fun h=>by simp [h]
       ·intro m hm;rw [imLL_length];exact (c m hm).1
     ·exact .unk .nil
    ·exact keep
  | optr j n i c =>
    simp only [frz0];split
    ·rename_i e;subst e;simp only [imQ,hk];split
     ·rename_i hn;split
      ·rename_i e hj;obtain ⟨_,y,hy,hc⟩:=h.optrInv;rw [hx] at hy;cases hy;rcases o1.slInv with ⟨rfl,rfl,rfl⟩ | ⟨l,q,pre,ws,rest,F',rfl,rfl,g',r',he,u1,cq⟩
       ·simp at hj
       ·obtain ⟨l',o',q',h1,h2⟩:=(hc _ _ _ rfl).2 hn.symm
        cases h1
        have r2:=r'.im (ν:=[]);rw [← imLL_flatten] at r2;have hrow:=RL.row (n:=0) r2 (imLL_mem he) (j:=i) (e:=imL e) (by rw [imLL_get,hj];rfl);subst h2
        have tk:take? (pre++(ws++rest)) (pre.length+i * s) (imL e).length=some ((ws.drop (i * s)).take s):=by
         have hl:=hrow.1.len;have h3:=hrow.2.2;simp only [take?,cond_beq,hrow.2.1];rw [← List.drop_drop,List.drop_left,List.drop_append_of_le_length (by omega),List.take_append_of_le_length (by rw [List.length_drop];omega),List.length_take,List.length_drop,if_pos (by omega)]
        rw [← Nat.add_assoc];exact .iptr (.inr (by simp)) g' tk ((hrow.1.any).weakP fun l h=>h.imp id fun h=>by simp [h]) .nil
      ·exact .unk .nil
     ·exact .unk .nil
    ·exact keep
  | _=>exact keep
 have many:∀ {ds:List D} {vs:List V},RL P H μ ds vs []→RL (fun l=>P l∨l∈Fk) H (μ.set k .dead) (ds.map (frz0 so k)) vs []:=by
  intro ds
  induction ds with
  | nil=>intro vs h;obtain ⟨rfl,_⟩:=h.nil_inv;exact .nil
  | cons d ds ih =>
    intro vs h;obtain ⟨v,vs',G1,G2,rfl,hF,h1,h2⟩:=h.uncons;have hF':=hF.symm;rw [List.append_eq_nil_iff] at hF';rw [hF'.1] at h1;rw [hF'.2] at h2;simpa using (zero h1).cons (ih h2)
 have one:∀ {d:D} {v:V},RL P H μ [d] [v] []→RL (fun l=>P l∨l∈Fk) H (μ.set k .dead) [frz so k d] [v] []:=by
  intro d v h
  cases d with
  | agg ds=>obtain ⟨ws,rfl,q⟩:=h.aggInv;exact (many q).agg1
  | tuple ds=>obtain ⟨ws,rfl,q⟩:=h.tupleInv;exact (many q).tuple1
  | iface t d=>obtain ⟨w,rfl,q⟩:=h.ifaceInv;exact (zero q).iface1
  | fn f u w =>
    obtain ⟨us,ws,G1,G2,rfl,hF,q1,q2⟩:=h.fnInv;have hF':=hF.symm;rw [List.append_eq_nil_iff] at hF';rw [hF'.1] at q1;rw [hF'.2] at q2;exact (many q1).fn1 (many q2)
  | _=>exact zero h
 have sub:∀ a,([]++(F1++([]++F2))).count a≤([]++(F1++(Fk++F2))).count a:=fun a=>by simp only [List.count_append,List.count_nil];omega
 refine ⟨fun l=>P l∨l∈Fk,μ.set k .dead,F1++([]++F2),{ wf:=r.wf,nt:=r.nt,nd:=r.nd.to (fun _ u e _ _=>⟨e,u⟩) (fun l h=>h.elim .inl fun h=>.inr (.inl (by simp [h]))) (fun l h=>.inl (mem_le sub h)),tms:=fun t=>?_,obs:=o2,nodup:=nodup_le r.nodup sub,apart:=fun l hl=>?_,old:=fun l hl=>r.old l (mem_le sub hl),lt:=fun l hl=>r.lt l (mem_le sub hl),p1:=fun l h=>.inl (r.p1 l h),p2:=?_,pl:=?_,ext:=r.ext,gl:=r.gl.trans gl }⟩
 ·rcases frzT_get (so:=so) k tm t with e | e
  ·simp only [e];exact one (r.tms t)
  ·simp only [e];exact .unk .nil
 ·rintro (p | h)
  ·exact r.apart l (mem_le sub hl) p
  ·have h1:=cnt l;simp only [List.nil_append,List.count_append] at h1;have h2:=List.count_pos_iff.2 h;have h3:=List.count_pos_iff.2 hl;simp only [List.nil_append,List.count_append,List.count_nil] at h3;omega
 ·rintro l (p | h)
  ·exact r.p2 l p
  ·have:=r.old l (by simp [h]);exact .inr this
 ·rintro l (p | h)
  ·exact r.pl l p
  ·exact r.obs.get l (by simp [h])
theorem sk_frz {c:Code} {kf:List Fr} {Q:Qt} (k:Nat) {es:List (List D)} (hB:∀ l,¬ g.B l) (hk:so[k]?=some (.sl s es)) (h:SK g T c kf ⟨frzT so k tm,so.set k .dead,n⟩ Q):SK g T c kf ⟨tm,so,n⟩ Q:=sk_le (le_frz hB hk) h
/-! ### Calls of which the answer is known -/
variable {st:St} {N:D→List Ob→Prop} {f:FuncId} {ds':List D} {d0:D}
theorem call_eq (h:VC T f ds' fun d=>d=d0) (e:ds.map (im1 st.so)=ds') (h1:D.pr d0=true) (h2:okI d0=true) (k:N (inD st.so d0).1 (inD st.so d0).2):CallP T st f ds N:=by
 subst e;exact call_pure h fun d hd=>by subst hd;exact ⟨h1,h2,k⟩
theorem call_eqI (hn:nlL ds=true) (h:VC T f ds' fun d=>d=d0) (e:ds=ds') (h2:okI d0=true) (k:N (inD st.so d0).1 (inD st.so d0).2):CallP T st f ds N:=by
 subst e;exact call_imm hn h fun d hd=>by subst hd;exact ⟨h2,k⟩
theorem call_eq2 (h:VC T f ds' fun d=>d=d0) (e:ds.map (im1 st.so)=ds'∧D.pr d0=true∧okI d0=true) (k:N (inD st.so d0).1 (inD st.so d0).2):CallP T st f ds N:=call_eq h e.1 e.2.1 e.2.2 k
theorem call_eqI2 (h:VC T f ds' fun d=>d=d0) (e:nlL ds=true∧ds=ds'∧okI d0=true) (k:N (inD st.so d0).1 (inD st.so d0).2):CallP T st f ds N:=call_eqI e.1 h e.2.1 e.2.2 k
theorem le_nil {tm:List (Nat×D)} {t s:Nat} (ht:tget tm t=.atom .nilSlice):Le g ⟨tm,so,n⟩ ⟨(t,.own so.length 0)::tm,so++[.sl s []],n⟩:=by
 intro a H P μ F r;have gl:=GoesL.app μ [.sl .nilSlice 0 s];have e:μ.length=so.length:=r.obs.len;refine ⟨P,μ++[.sl .nilSlice 0 s],F++[],{ wf:=r.wf,nt:=r.nt,nd:=r.nd.same (fun l h=>by simpa using h),tms:=fun j=>?_,obs:=(r.obs.goes gl).app (.slNil .nil),nodup:=by simpa using r.nodup,apart:=fun l h=>r.apart l (by simpa using h),old:=fun l h=>r.old l (by simpa using h),lt:=fun l h=>r.lt l (by simpa using h),p1:=r.p1,p2:=r.p2,pl:=r.pl,ext:=r.ext,gl:=r.gl.trans gl }⟩;simp only [tget];split
 ·rename_i ej;subst ej;have:=r.tms t;simp only at this;rw [ht] at this;rw [this.atomInv.2];exact RL.own1 (h:=.sl .nilSlice 0 s) (by rw [List.getElem?_append_right (by omega),e];simp) (fun w m z e=>by cases e;exact ⟨Nat.le_refl _,fun _=>rfl⟩)
 ·exact (r.tms j).goes gl
theorem su_le {e:Ex} {kf:List Fr} {Q:Qt} {st st':St} (h:Le g st st') (h':SU g T kf e Q st'):SU g T kf e Q st:=fun a H P μ F r=>by
 obtain ⟨P',μ',F',r'⟩:=h a H P μ F r;exact h' a H P' μ' F' r'
theorem sk_nil {c:Code} {kf:List Fr} {Q:Qt} {tm:List (Nat×D)} (t s:Nat) (ht:tget tm t=.atom .nilSlice) (h:SK g T c kf ⟨(t,.own so.length 0)::tm,so++[.sl s []],n⟩ Q):SK g T c kf ⟨tm,so,n⟩ Q:=sk_le (le_nil ht) h
end Go.Am.Vm

namespace Go.Am.Vm
open Go.Am
variable {T:Tab} {P P':Nat→Prop} {H H':Heap} {μ μ':List Hd} {ds es cs:List D} {vs ws us:List V} {F G X K F' X':List Nat} {d:D} {v:V} {so so':List Ob} {ob:Ob}
 {g:Gh} {st:St} {a:A}
theorem Rl.place (r:Rl g st a H P μ F X) {l:Nat} (h1:l<H.n) (h2:¬ P l) (h3:g.H0.n≤l) (h4:¬ l∈X++F) (h5:¬ g.U l) (o:O):Rl g st a (H.put l o) P μ F (l::X)∧(H.put l o).get l=some o:=by
 have ne:∀ j,(P j∨j∈X++F)→j≠l:=fun j h e=>by
  subst e;exact h.elim h2 h4
 have k:∀ j o',(P j∨j∈X++F)→H.get j=some o'→(H.put l o).get j=some o':=fun j o' h e=>by
  rw [Heap.get_put_ne (ne j h)];exact e
 refine ⟨{ wf:=r.wf.put h1 o,nt:=r.nt,nd:=?_,tms:=fun t=>(r.tms t).keep fun j o' h=>k j o' (h.imp id fun h=>by cases h),obs:=r.obs.keep fun j o' h=>k j o' (h.imp id fun h=>by simp [h]),nodup:=?_,apart:=?_,old:=?_,lt:=?_,p1:=r.p1,p2:=r.p2,pl:=?_,ext:=r.ext.put (.inr h3) h1 o,gl:=r.gl },get_put_same h1 _⟩
 ·obtain ⟨ds,n1,n2,n3⟩:=r.nd;refine ⟨ds,n1,n2,fun j hj=>?_⟩;obtain ⟨k1,k2,k3,k4⟩:=n3 j hj;have hne:¬ j=l:=fun e=>h5 (e ▸ k2);exact ⟨by rw [Heap.get_put_ne hne];exact k1,k2,k3,fun m=>(List.mem_cons.1 m).elim hne k4⟩
 ·rw [List.cons_append,List.nodup_cons];exact ⟨h4,r.nodup⟩
 ·intro j h;rw [List.cons_append,List.mem_cons] at h;rcases h with rfl | h
  ·exact h2
  ·exact r.apart j h
 ·intro j h;rw [List.cons_append,List.mem_cons] at h;rcases h with rfl | h
  ·exact .inr h3
  ·exact r.old j h
 ·intro j h;rw [List.cons_append,List.mem_cons] at h;rw [Heap.n_put];rcases h with rfl | h
  ·exact h1
  ·exact r.lt j h
 ·intro j p;obtain ⟨o',e⟩:=r.pl j p;exact ⟨o',k j o' (.inl p) e⟩
def now (g:Gh) (H:Heap) (P:Nat→Prop) (μ:List Hd) (F:List Nat):Gh:=⟨H,P,fun l=>l∈F,μ,g.ρ,g.U⟩
theorem Rl.toNow (r:Rl g st a H P μ F []):Rl (now g H P μ F) st a H P μ F []:=
 { wf:=r.wf,nt:=r.nt,nd:=r.nd,tms:=r.tms,obs:=r.obs,nodup:=r.nodup,apart:=r.apart,old:=fun l h=>.inl (show l∈F by simpa using h),lt:=r.lt,p1:=fun l h=>h,p2:=fun l h=>.inl h,pl:=r.pl,ext:=(Ext.refl r.wf).but _,gl:=GoesL.refl _ }
theorem Rl.ofNow {st':St} {a':A} (r:Rl g st a H P μ F []) (q:Rl (now g H P μ F) st' a' H' P' μ' F' X):Rl g st' a' H' P' μ' F' X:=
 { wf:=q.wf,nt:=q.nt,nd:=q.nd,tms:=q.tms,obs:=q.obs,nodup:=q.nodup,apart:=q.apart,old:=fun l h=>(q.old l h).elim (fun h=>r.old l (by simpa [now] using h)) fun h=>.inr (Nat.le_trans r.ext.n h),lt:=q.lt,p1:=fun l h=>q.p1 l (r.p1 l h),p2:=fun l h=>(q.p2 l h).elim (fun h=>r.p2 l h) fun h=>.inr (h.elim (fun h=>r.old l (by simpa [now] using h)) fun h=>.inr (Nat.le_trans r.ext.n h)),pl:=q.pl,
   ext:=r.ext.trans' q.ext fun l h=>(r.old l (by simpa [now] using h)),gl:=r.gl.trans q.gl }
theorem Rl.freeNow {st':St} {a':A} (q:Rl (now g H P μ F) st' a' H' P' μ' F' X) {l:Nat} (hl:l<H.n) (h1:¬ P l) (h2:¬ l∈F):¬ P' l∧¬ l∈X++F':=
 ⟨fun h=>(q.p2 l h).elim h1 fun h=>h.elim h2 fun h=>by have:H.n≤l:=h;omega,fun h=>(q.old l h).elim h2 fun h=>by have:H.n≤l:=h;omega⟩
theorem Rl.cellX {l:Nat} (r1:Rl g st a H P μ F [l]) (e:H.get l=some (.cells false vs)) (h:RL P H μ cs vs []):∃ μ' F',Rl g ⟨st.tm,st.so++[.cell cs],st.n⟩ a H P μ' F' []∧RL P H μ' [.rptr st.so.length 0] [.ptr l 0] []∧F'=F++[l]∧GoesL μ μ':=by
 have gl:=GoesL.app μ [.cell l];have o:OL P H (μ++[.cell l]) [.cell l] [.cell cs] ([l]++[]):=.cell e (h.goes gl) .nil;refine ⟨_,_,Rl.take (K:=[l]) (X:=[]) (by simpa using r1) (by simpa using o),.rptr (h:=.cell l) ?_ (fun l e=>by cases e;rfl) .nil,rfl,gl⟩;rw [← r1.obs.len,List.getElem?_append_right (Nat.le_refl _)];simp
theorem Rl.mapX {l:Nat} (r1:Rl g st a H P μ F [l]) (e:H.get l=some (.map [])):∃ μ' F',Rl g ⟨st.tm,st.so++[.mp []],st.n⟩ a H P μ' F' []∧RL P H μ' [.omap st.so.length] [.map l] []∧F'=F++[l]∧GoesL μ μ':=by
 have gl:=GoesL.app μ [.cell l];have o:OL P H (μ++[.cell l]) [.cell l] [.mp []] ([l]++[]):=.mp e rfl .nil .nil;refine ⟨_,_,Rl.take (K:=[l]) (X:=[]) (by simpa using r1) (by simpa using o),.omap (h:=.cell l) ?_ (fun l e=>by cases e;rfl) .nil,rfl,gl⟩;rw [← r1.obs.len,List.getElem?_append_right (Nat.le_refl _)];simp
theorem Rl.slX {l:Nat} (r1:Rl g st a H P μ F (l::K)) {s:Nat} {es:List (List D)} (q:Option Nat) (rest:List V) (e:H.get l=some (.cells false (ws++rest))) (h:RL P H [] es.flatten ws K) (el:∀ e,e∈es→e.length=s) (u1:ws.all V.one=true)
  (cq:∀ m,q=some m→es.length≤m∧(m - es.length) * s≤rest.length):∃ μ' F',Rl g ⟨st.tm,st.so++[.sl s es],st.n⟩ a H P μ' F' []∧RL P H μ' [.own st.so.length es.length] [.slice l 0 es.length s q] []∧F'=F++(l::K)∧GoesL μ μ':=by
 have o:OL P H (μ++[.sl (.slice l 0 es.length s q) es.length s]) [.sl (.slice l 0 es.length s q) es.length s] [.sl s es] (l::(K++[])):=.sl (pre:=[]) e h.any el u1 cq .nil;refine ⟨_,_,Rl.take (K:=l::K) (X:=[]) (by simpa using r1) (by simpa using o),RL.own1 (h:=.sl (.slice l 0 es.length s q) es.length s) ?_ (fun w m z e=>by cases e;exact ⟨Nat.le_refl _,fun _=>rfl⟩),rfl,GoesL.app _ _⟩;rw [← r1.obs.len,List.getElem?_append_right (Nat.le_refl _)];simp
def AnyPlace (g:Gh) (T:Tab) (st:St) (a:A) (P:Nat→Prop) (H:Heap) (F:List Nat) (op:Op) (d:D) (so':List Ob) (μ:List Hd):Prop:=
 ∃ (mk:Nat→V) (o:O),(∀ H:Heap,execOp T a H op=.val (mk H.n) (H.push o))∧∀ l,l<H.n→¬ P l→g.H0.n≤l→¬ l∈F→¬ g.U l→∃ μ' F',Rl g ⟨st.tm,so',st.n⟩ a (H.put l o) P μ' F' []∧RL P (H.put l o) μ' [d] [mk l] []∧(∀ j,j∈F'→j∈F∨j=l)∧GoesL μ μ'
theorem RL.put_keep (h:RL P H μ ds vs F) {l:Nat} (h1:¬ P l) (h2:¬ l∈F) (o:O):RL P (H.put l o) μ ds vs F:=h.keep fun j o' hj e=>by
 rw [Heap.get_put_ne]
 ·exact e
 ·rintro rfl;exact hj.elim h1 h2
theorem anyPlace (r:Rl g st a H P μ F []) {op:Op} (ha:isAlloc op=true) (h:vop T st op=.val d so'):AnyPlace g T st a P H F op d so' μ:=by
 cases op with
 | alloc t =>
   simp only [vop] at h
   cases hz:T.zero t with
   | none=>rw [hz] at h;cases h
   | some z =>
     rw [hz] at h;cases h;refine ⟨fun n=>.ptr n 0,.cells false z,fun H=>by rw [xo_alloc,hz],fun l h1 h2 h3 h4 h5=>?_⟩;obtain ⟨r1,e⟩:=r.place h1 h2 h3 (by simpa using h4) h5 (.cells false z);obtain ⟨μ',F',q1,q2,rfl,gx⟩:=r1.cellX e (RL.atoms z);exact ⟨μ',_,q1,q2,fun j hj=>by simpa using hj,gx⟩
 | box t x =>
   simp only [vop,ev1] at h;split at h
   ·rename_i d0 hd;obtain ⟨v0,e0,hv⟩:=r.evalOk hd
    cases hc:cellsD st.so d0 with
    | none=>rw [hc] at h;cases h
    | some cs =>
      rw [hc] at h;cases h;refine ⟨fun n=>.ptr n 0,.cells false v0.cells,fun H=>by rw [xo_box];unfold op1;rw [e0],fun l h1 h2 h3 h4 h5=>?_⟩;obtain ⟨r1,e⟩:=r.place h1 h2 h3 (by simpa using h4) h5 (.cells false v0.cells);obtain ⟨μ',F',q1,q2,rfl,gx⟩:=r1.cellX e ((r.cellsOk hc hv).1.put_keep h2 (by simp) _);exact ⟨μ',_,q1,q2,fun j hj=>by simpa using hj,gx⟩
   ·cases h
 | makeSlice t x y =>
   simp only [vop,ev1] at h;split at h
   ·rename_i d1 hd1;split at h
    ·rename_i d2 hd2;obtain ⟨v1,e1,hv1⟩:=r.evalOk hd1;obtain ⟨v2,e2,hv2⟩:=r.evalOk hd2
     cases hm:vMake T st.so t d1 d2 with
     | none=>rw [hm] at h;cases h
     | some q =>
       obtain ⟨d',s'⟩:=q;rw [hm] at h
       cases h
       simp only [vMake] at hm;split at hm
       ·rename_i kx n ky c;split at hm
        ·rename_i hc;obtain ⟨h1,h2,h3,h4,h5,h6⟩:=hc
         cases hm
         have w1:=hv1.atomInv.2;have w2:=hv2.atomInv.2;subst w1;subst w2;obtain ⟨n,rfl⟩:∃ m:Nat,n=m:=⟨n.toNat,by omega⟩
         obtain ⟨c,rfl⟩:∃ m:Nat,c=m:=⟨c.toNat,by omega⟩
         simp only [Int.toNat_natCast] at h4 h5 ⊢;obtain ⟨e,_,_,_,hz,_⟩:=mkOk_eq h1;refine ⟨fun k=>.slice k 0 n (esz T t) (some c),.cells false (List.replicate c (ezero T t)).flatten,fun H=>?_,fun l l1 l2 l3 l4 l5=>?_⟩
         ·rw [xo_mkS];simp only [op1,e1,e2];exact mkS_eq t h1 kx ky n c (by omega) h4 h5
         ·have efl:∀ n,(List.replicate n ((ezero T t).map D.atom)).flatten=((List.replicate n (ezero T t)).flatten).map D.atom:=by
           intro n
           induction n with
           | zero=>rfl
           | succ n ih=>rw [List.replicate_succ,List.replicate_succ,List.flatten_cons,List.flatten_cons,List.map_append,ih]
          have spl:(List.replicate c (ezero T t)).flatten=(List.replicate n (ezero T t)).flatten++(List.replicate (c - n) (ezero T t)).flatten:=by
           rw [← List.flatten_append,List.replicate_append_replicate]
           congr 2;omega
          have hall:∀ n,((List.replicate n (ezero T t)).flatten).all V.one=true:=fun n=>all_flatten fun f hf=>by rw [List.eq_of_mem_replicate hf];exact h6
          have hfl:∀ n,((List.replicate n (ezero T t)).flatten).length=n * esz T t:=by
           intro n;rw [flatten_len (s:=esz T t) (fun e he=>by rw [List.eq_of_mem_replicate he,hz])];simp
          rw [spl];obtain ⟨r1,e⟩:=r.place l1 l2 l3 (by simpa using l4) l5 (.cells false ((List.replicate n (ezero T t)).flatten++(List.replicate (c - n) (ezero T t)).flatten))
          obtain ⟨μ',F',r2,q2,rfl,gx⟩:=Rl.slX (K:=[]) r1 (s:=esz T t) (es:=List.replicate n ((ezero T t).map D.atom)) (some c) (List.replicate (c - n) (ezero T t)).flatten e
           (by rw [efl];exact RL.atoms _) (fun e he=>by rw [List.eq_of_mem_replicate he,List.length_map,hz]) (hall n) (fun m hm=>by cases hm;rw [List.length_replicate,hfl];exact ⟨by omega,Nat.le_refl _⟩)
          rw [List.length_replicate] at q2;exact ⟨μ',_,r2,q2,fun j hj=>by simpa using hj,gx⟩
        ·cases hm
       ·cases hm
    ·cases h
   ·cases h
 | buildSlice t n ps =>
   simp only [vop] at h
   cases hp:st.evalParts ps.toList with
   | none=>rw [hp] at h;cases h
   | some qs =>
     rw [hp] at h;obtain ⟨vs,he,rp⟩:=r.evalPartsOk hp;simp only [vLitO] at h
     cases hl:vLit T st.so t n qs with
     | none=>rw [hl] at h;cases h
     | some q =>
       obtain ⟨d',s'⟩:=q;rw [hl] at h;cases h;simp only [vLit] at hl;split at hl
       ·rename_i hc;obtain ⟨h1,h2,h3⟩:=hc;obtain ⟨e,u1,u2,u3,hz,h5,h6⟩:=mkOk_eq h1;have hb:Nat.beq (ezero T t).length (esz T t)=true:=by rw [Nat.beq_eq];exact hz
        have hle:Nat.ble (n * esz T t) 16777216=true:=by rw [Nat.ble_eq];exact h3
        have ex:∀ H:Heap,execOp T a H (.buildSlice t n ps)=match fill (fun i=>some (i * esz T t,esz T t)) (zeros (ezero T t) n) vs with
          | some cs=>OR.val (.slice H.n 0 n (esz T t) (some n)) (H.push (.cells false cs))
          | none=>.stuck:=by
         intro H;simp only [execOp,u1,u2,u3,he,hb,hle,Bool.and_self,cond_true]
         rfl
        have efl:∀ n,(List.replicate n ((ezero T t).map D.atom)).flatten=(zeros (ezero T t) n).map D.atom:=by
         intro n;rw [zeros_eq]
         induction n with
         | zero=>rfl
         | succ n ih=>rw [List.replicate_succ,List.replicate_succ,List.flatten_cons,List.flatten_cons,List.map_append,ih]
        have hall:∀ n,(zeros (ezero T t) n).all V.one=true:=fun n=>by rw [zeros_eq];exact all_flatten fun f hf=>by rw [List.eq_of_mem_replicate hf];exact h2
        have hfl:∀ n,(zeros (ezero T t) n).length=n * esz T t:=by
         intro n;rw [zeros_eq,flatten_len (s:=esz T t) (fun e he=>by rw [List.eq_of_mem_replicate he,hz])];simp
        split at hl
        ·rename_i d1;split at hl
         ·rename_i cs hcs;split at hl
          ·rename_i cs' so1 ho;split at hl
           ·rename_i hlen
            cases hl
            cases rp with
            | cons hd rp =>
              rename_i v vs
              cases rp
              obtain ⟨q1,q2⟩:=r.cellsOk hcs hd;have hl:=q1.len;have hzl:=hfl 1;rw [Nat.one_mul] at hzl
              have e1:fill (fun i=>some (i * esz T t,esz T t)) (zeros (ezero T t) 1) [(0,v)]=some v.cells:=by
               have b1:Nat.beq v.cells.length (esz T t)=true:=by rw [Nat.beq_eq];omega
               have b2:Nat.ble (0+esz T t) (zeros (ezero T t) 1).length=true:=by rw [Nat.ble_eq,hzl];omega
               simp only [fill,b1,Nat.zero_mul];rw [over_zero_len _ _ (by omega),b2]
               rfl
              refine ⟨fun k=>.slice k 0 1 (esz T t) (some 1),.cells false v.cells,fun H=>by rw [ex,e1],fun l l1 l2 l3 l4 l5=>?_⟩;obtain ⟨μ1,F1,K,r1,q3,g1⟩:=r.toNow.outsOk ho q1;rw [List.append_nil] at r1;have hfr:=r1.freeNow l1 l2 l4;obtain ⟨r2,e2⟩:=(r.ofNow r1).place l1 l2 l3 hfr.2 l5 (.cells false v.cells);obtain ⟨μ',F',r3,q4,rfl,gx⟩:=Rl.slX (st:=⟨st.tm,so1,st.n⟩) r2 (s:=esz T t) (es:=[cs']) (some 1) [] (by rw [List.append_nil];exact e2) (by simpa using q3.put_keep l2 (fun h=>hfr.2 (by simp [h])) _) (fun e he=>by rw [List.mem_singleton.1 he,outs_length ho];exact hlen) q2 (fun m hm=>by cases hm;simp);refine ⟨μ',_,r3,q4,fun j hj=>?_,g1.trans gx⟩;simp only [List.mem_append,List.mem_cons] at hj
              by_cases e:j=l
              ·exact .inr e
              ·left
               have hjm:j∈K++F1:=by simp only [List.mem_append];rcases hj with h | h | h <;> simp_all
               exact (r1.old j hjm).elim id fun h=>by have h2:=r1.lt j hjm;have h3:H.n≤j:=h;omega
           ·cases hl
          ·cases hl
         ·cases hl
        ·split at hl
         ·rename_i cells hf;split at hl
          ·rename_i hnl
           cases hl
           rw [efl] at hf;obtain ⟨vs',e1,e2,e3,e4⟩:=r.fillOk hf rp (RL.atoms _) (hall n);rw [List.length_map,hfl] at e4;refine ⟨fun k=>.slice k 0 n (esz T t) (some n),.cells false vs',fun H=>by rw [ex,e1],fun l l1 l2 l3 l4 l5=>?_⟩;obtain ⟨r2,e5⟩:=r.place l1 l2 l3 (by simpa using l4) l5 (.cells false vs');obtain ⟨μ',F',r3,q4,rfl,gx⟩:=Rl.slX (K:=[]) r2 (s:=esz T t) (es:=rowsOf (esz T t) n cells) (some n) [] (by rw [List.append_nil];exact e5) (by rw [rowsOf_flatten e4];exact (e2.nl hnl).put_keep l2 (by simp) _) (rowsOf_len e4) e3 (fun m hm=>by cases hm;simp [rowsOf]);have hn:(rowsOf (esz T t) n cells).length=n:=by simp [rowsOf]
           rw [hn] at q4;exact ⟨μ',_,r3,q4,fun j hj=>by simpa using hj,gx⟩
          ·split at hl
           ·rename_i cs' so1 ho
            cases hl
            rw [efl] at hf;obtain ⟨vs',e1,e2,e3,e4⟩:=r.fillOk hf rp (RL.atoms _) (hall n);rw [List.length_map,hfl,← outs_length ho] at e4;refine ⟨fun k=>.slice k 0 n (esz T t) (some n),.cells false vs',fun H=>by rw [ex,e1],fun l l1 l2 l3 l4 l5=>?_⟩;obtain ⟨μ1,F1,K,r1,q3,g1⟩:=r.toNow.outsOk ho e2;rw [List.append_nil] at r1;have hfr:=r1.freeNow l1 l2 l4;obtain ⟨r2,e5⟩:=(r.ofNow r1).place l1 l2 l3 hfr.2 l5 (.cells false vs');obtain ⟨μ',F',r3,q4,rfl,gx⟩:=Rl.slX (st:=⟨st.tm,so1,st.n⟩) r2 (s:=esz T t) (es:=rowsOf (esz T t) n cs') (some n) [] (by rw [List.append_nil];exact e5) (by rw [rowsOf_flatten e4];exact q3.put_keep l2 (fun h=>hfr.2 (by simp [h])) _) (rowsOf_len e4) e3 (fun m hm=>by cases hm;simp [rowsOf]);have hn:(rowsOf (esz T t) n cs').length=n:=by simp [rowsOf]
            rw [hn] at q4;refine ⟨μ',_,r3,q4,fun j hj=>?_,g1.trans gx⟩;simp only [List.mem_append,List.mem_cons] at hj
            by_cases e:j=l
            ·exact .inr e
            ·left
             have hjm:j∈K++F1:=by simp only [List.mem_append];rcases hj with h | h | h <;> simp_all
             exact (r1.old j hjm).elim id fun h=>by have h2:=r1.lt j hjm;have h3:H.n≤j:=h;omega
           ·cases hl
         ·cases hl
       ·cases hl
 | makeMap t x =>
   cases x with
   | none =>
     have h':VR.val (D.omap st.so.length) (st.so++[Ob.mp []])=VR.val d so':=h
     cases h'
     refine ⟨fun n=>.map n,.map [],fun H=>rfl,fun l h1 h2 h3 h4 h5=>?_⟩;obtain ⟨r1,e⟩:=r.place h1 h2 h3 (by simpa using h4) h5 (.map []);obtain ⟨μ',F',q1,q2,rfl,gx⟩:=r1.mapX e;exact ⟨μ',_,q1,q2,fun j hj=>by simpa using hj,gx⟩
   | some x=>cases h
 | _=>cases ha
/-! ### The region -/
variable {ops:Array Oper} {κ:St→Prop}
def vD (T:Tab) (ops:Array Oper) (κ:St→Prop):List Nat→St→Prop
 | [],st=>κ st
 | i::l,st=>match ops[i]? with
   | some o=>match wantedD ops st o with
     | some true=>match vop T st o.op with
       | .val d so'=>vD T ops κ l (St.put ⟨st.tm,so',st.n⟩ o.dst d)
       | .call f ds=>CallP T st f ds fun d so'=>vD T ops κ l (St.put ⟨st.tm,so',st.n⟩ o.dst d)
       | .round r ds=>RoundP T st r ds fun d so'=>vD T ops κ l (St.put ⟨st.tm,so',st.n⟩ o.dst d)
       | .stuck=>False
     | some false=>vD T ops κ l (st.put o.dst (.tuple []))
     | none=>False
   | none=>False
def vDN (T:Tab) (ops:Array Oper) (κ:St→Prop) (l:List Nat) (dst:Option Tmp) (st:St) (d:D) (so':List Ob):Prop:=vD T ops κ l (St.put ⟨st.tm,so',st.n⟩ dst d)
def vDS (T:Tab) (ops:Array Oper) (κ:St→Prop) (l:List Nat) (dst:Option Tmp) (st:St):VR→Prop
 | .val d so'=>vD T ops κ l (St.put ⟨st.tm,so',st.n⟩ dst d)
 | .call f ds=>CallP T st f ds (vDN T ops κ l dst st)
 | .round r ds=>RoundP T st r ds (vDN T ops κ l dst st)
 | .stuck=>False
def vDW (T:Tab) (ops:Array Oper) (κ:St→Prop) (l:List Nat) (o:Oper) (st:St):Option Bool→Prop
 | some true=>vDS T ops κ l o.dst st (vop T st o.op)
 | some false=>vD T ops κ l (st.put o.dst (.tuple []))
 | none=>False
def vDO (T:Tab) (ops:Array Oper) (κ:St→Prop) (l:List Nat) (st:St):Option Oper→Prop
 | some o=>vDW T ops κ l o st (wantedD ops st o)
 | none=>False
theorem vD_nil:vD T ops κ [] st=κ st:=Eq.trans rfl rfl
theorem vD_cons (i:Nat) (l:List Nat):vD T ops κ (i::l) st=vDO T ops κ l st ops[i]?:=by
 simp only [vD,vDO]
 cases ops[i]? with
 | none=>rfl
 | some o =>
   simp only
   cases wantedD ops st o with
   | none=>rfl
   | some b =>
     cases b
     ·rfl
     ·simp only [vDW]
      cases vop T st o.op <;> rfl
theorem vDO_some (l:List Nat) (o:Oper):vDO T ops κ l st (some o)=vDW T ops κ l o st (wantedD ops st o):=Eq.trans rfl rfl
theorem vDW_true (l:List Nat) (o:Oper):vDW T ops κ l o st (some true)=vDS T ops κ l o.dst st (vop T st o.op):=Eq.trans rfl rfl
theorem vDW_false (l:List Nat) (o:Oper):vDW T ops κ l o st (some false)=vD T ops κ l (st.put o.dst (.tuple [])):=Eq.trans rfl rfl
theorem vDS_val (l:List Nat) (dst:Option Tmp) (d:D) (so':List Ob):vDS T ops κ l dst st (.val d so')=vD T ops κ l (St.put ⟨st.tm,so',st.n⟩ dst d):=Eq.trans rfl rfl
theorem vDS_round (l:List Nat) (dst:Option Tmp) (r:Nat) (ds:List D):vDS T ops κ l dst st (.round r ds)=RoundP T st r ds (vDN T ops κ l dst st):=Eq.trans rfl rfl
theorem vDS_call (l:List Nat) (dst:Option Tmp) (f:FuncId) (ds:List D):vDS T ops κ l dst st (.call f ds)=CallP T st f ds (vDN T ops κ l dst st):=Eq.trans rfl rfl
theorem vDN_eq (l:List Nat) (dst:Option Tmp) (d:D) (so':List Ob):vDN T ops κ l dst st d so'=vD T ops κ l (St.put ⟨st.tm,so',st.n⟩ dst d):=Eq.trans rfl rfl
theorem vop_alloc_no_call {op:Op} (ha:isAlloc op=true) {f:FuncId} {ds:List D}:vop T st op≠.call f ds∧vop T st op≠.round f ds:=by
 constructor
 all_goals intro hv
 all_goals
  cases op with
  | alloc t=>simp only [vop] at hv;cases h:T.zero t <;> rw [h] at hv <;> cases hv
  | box t x =>
    simp only [vop,ev1] at hv;split at hv
    ·rename_i d _;cases h:cellsD st.so d <;> rw [h] at hv <;> cases hv
    ·cases hv
  | makeSlice t x y =>
    simp only [vop,ev1] at hv;split at hv
    ·split at hv
     ·rename_i d _ _ d' _;cases h:vMake T st.so t d d' <;> rw [h] at hv <;> cases hv
     ·cases hv
    ·cases hv
  | buildSlice t n ps =>
    simp only [vop] at hv
    cases h:st.evalParts ps.toList with
    | none=>rw [h] at hv;cases hv
    | some qs=>rw [h] at hv;simp only [vLitO] at hv;cases h2:vLit T st.so t n qs <;> rw [h2] at hv <;> cases hv
  | makeMap t x=>cases x <;> cases hv
  | _=>cases ha
theorem vD_ok {k:List Fr} {Q:Qt} {k0 n:Nat} (hκ:∀ st a H P μ F,κ st→Rl g st a H P μ F []→unw T g.ρ Q k .normal a H) (hk0:g.H0.n≤k0) (hU:∀ r,g.U r→r<k0) (hsz:ops.size=n) :
  ∀ {l:List Nat} {st:St} {a:A} {H:Heap} {P:Nat→Prop} {μ:List Hd} {F:List Nat},vD T ops κ l st→Rl g st a H P μ F []→k0+n≤H.n→l.Nodup→(∀ i,i∈l→i<n∧¬ P (k0+i)∧¬ (k0+i)∈F)→WpS T g.ρ ops k0 l k a H Q
 | [],st,a,H,P,μ,F,h,r,_,_,_=>by rw [wpS_nil];exact hκ _ _ _ _ _ _ h r
 | i::l,st,a,H,P,μ,F,h,r,hn,hnd,hfree=>by
   rw [vD_cons] at h;rw [wpS_cons];rw [List.nodup_cons] at hnd
   cases ho:ops[i]? with
   | none=>rw [ho] at h;exact h.elim
   | some o =>
     rw [ho,vDO_some] at h;rw [wpSO_some];have hi:i<n:=by rw [← hsz];exact (Array.getElem?_eq_some_iff.1 ho).1
     cases hw:wantedD ops st o with
     | none=>rw [hw] at h;exact h.elim
     | some b =>
       rw [hw] at h;rw [wantedOk r hw]
       cases b with
       | false =>
         rw [wpSW_false];rw [vDW_false] at h;exact vD_ok hκ hk0 hU hsz h (r.putOk o.dst (RL.tuple1 .nil)) hn hnd.2 fun j hj=>hfree j (by simp [hj])
       | true =>
         rw [wpSW_true];rw [vDW_true] at h
         cases hal:isAlloc o.op with
         | true =>
           rw [cond_true]
           cases hv:vop T st o.op with
           | stuck=>rw [hv] at h;exact h.elim
           | call f ds=>exact ((vop_alloc_no_call hal).1 hv).elim
           | round f ds=>exact ((vop_alloc_no_call hal).2 hv).elim
           | val d so' =>
             rw [hv,vDS_val] at h;obtain ⟨mk,ob,e1,pl⟩:=anyPlace (T:=T) r.toNow hal hv
             have hq:quietAt T a (k0+i) o.op=some (mk (k0+i),some ob):=by
              have e2:=e1 ⟨k0+i,.leaf⟩;unfold quietAt;rw [e2];simp only [Heap.push]
              have hb:Nat.beq (k0+i+1) (k0+i)=false:=by
               cases h:Nat.beq (k0+i+1) (k0+i)
               ·rfl
               ·rw [Nat.beq_eq] at h;omega
              rw [hb,cond_false];have e3:=get_push_same ⟨k0+i,.leaf⟩ ob;simp only [Heap.push] at e3;rw [e3]
             rw [hq,wpSA_some];obtain ⟨_,f1,f2⟩:=hfree i (by simp);obtain ⟨mk',ob',e1',pl'⟩:=anyPlace (T:=T) r hal hv
             have hmk:mk' (k0+i)=mk (k0+i)∧ob'=ob:=by
              have a1:=e1 ⟨k0+i,.leaf⟩;rw [e1' ⟨k0+i,.leaf⟩] at a1;simp only [OR.val.injEq] at a1;refine ⟨a1.1,?_⟩;have a2:=congrArg (fun H:Heap=>H.get (k0+i)) a1.2;have e3:=get_push_same ⟨k0+i,.leaf⟩ ob;have e4:=get_push_same ⟨k0+i,.leaf⟩ ob';simp only at a2 e3 e4;rw [e3,e4] at a2;exact Option.some.inj a2
             obtain ⟨μ',F',r1,q1,hF,_⟩:=pl' (k0+i) (by omega) f1 (by omega) f2 (fun u=>by have:=hU _ u;omega);rw [hmk.1,hmk.2] at q1;rw [hmk.2] at r1
             have fr:∀ j,j∈l→j<n∧¬ P (k0+j)∧¬ (k0+j)∈F':=by
              intro j hj;obtain ⟨b1,b2,b3⟩:=hfree j (by simp [hj]);refine ⟨b1,b2,fun hm=>?_⟩;rcases hF _ hm with h | h
              ·exact b3 h
              ·have:j=i:=by omega
               subst this;exact hnd.1 hj
             exact vD_ok hκ hk0 hU hsz h (r1.putOk o.dst q1) (by rw [Heap.n_put];exact hn) hnd.2 fr
         | false =>
           rw [cond_false];have hop:=vop_ok (T:=T) r.toNow o.op
           cases hv:vop T st o.op with
           | stuck=>rw [hv] at h;exact h.elim
           | val d so' =>
             rw [hv] at h hop;obtain ⟨v,H',μ',F',e,r1,q1⟩:=hop;rw [e,wpSX_val];refine vD_ok hκ hk0 hU hsz h ((r.ofNow r1).putOk o.dst q1) (Nat.le_trans hn r1.ext.n) hnd.2 fun j hj=>?_;obtain ⟨f0,f1,f2⟩:=hfree j (by simp [hj]);exact ⟨f0,by simpa using r1.freeNow (by omega) f1 f2⟩
           | call f ds =>
             rw [hv] at h hop;obtain ⟨vs,e,q1⟩:=hop;rw [e];rw [vDS_call] at h;refine wpSX_call (h _ a H P μ F vs r.toNow q1) fun v H' ⟨d,so',P',μ',F',h1,r1,q1⟩=>vD_ok hκ hk0 hU hsz h1 ((r.ofNow r1).putOk o.dst q1) (Nat.le_trans hn r1.ext.n) hnd.2 fun j hj=>?_;obtain ⟨f0,f1,f2⟩:=hfree j (by simp [hj]);exact ⟨f0,by simpa using r1.freeNow (by omega) f1 f2⟩
           | round f ds =>
             rw [hv] at h hop;obtain ⟨vs,e,q1⟩:=hop;rw [e];rw [vDS_round] at h;refine wpSX_round (h _ a H P μ F vs r.toNow q1) fun v H' ⟨d,so',P',μ',F',h1,r1,q1⟩=>vD_ok hκ hk0 hU hsz h1 ((r.ofNow r1).putOk o.dst q1) (Nat.le_trans hn r1.ext.n) hnd.2 fun j hj=>?_;obtain ⟨f0,f1,f2⟩:=hfree j (by simp [hj]);exact ⟨f0,by simpa using r1.freeNow (by omega) f1 f2⟩
theorem sk_draw {k:List Fr} {Q:Qt} (n:Nat) (l:List Nat) {id:Nat} (hd:drawChk T ops n l=true) (hl:(l.all fun i=>Nat.blt i n)=true) (hnd:l.Nodup) (h:vD T ops (SU g T k .normal Q) l st):SK g T (.region id ops true) k st Q:=by
 intro a H P μ F r;refine wpK_draw n l r.wf hd ?_;have hw:∀ {st a H' P' μ' F'},Rl ⟨g.H0,g.P0,g.B,g.μ0,g.ρ,fun r=>r<H.n∧g.U r⟩ st a H' P' μ' F' []→Rl g st a H' P' μ' F' []:=fun r=>{ wf:=r.wf,nt:=r.nt,nd:=r.nd.to (fun _ u e _ _=>⟨e,u.2⟩) (fun l h=>.inl h) (fun l h=>.inl h),tms:=r.tms,obs:=r.obs,nodup:=r.nodup,apart:=r.apart,old:=r.old,lt:=r.lt,p1:=r.p1,p2:=r.p2,pl:=r.pl,ext:=r.ext,gl:=r.gl }
 have hsz:ops.size=n:=by
  simp only [drawChk,Bool.and_eq_true,Nat.beq_eq] at hd;exact hd.1.1.1.1
 have hx:Ext H (H.keep n):=(Ext.refl r.wf).keep n;have r1:Rl ⟨g.H0,g.P0,g.B,g.μ0,g.ρ,fun r=>r<H.n∧g.U r⟩ st a (H.keep n) P μ F []:={ wf:=hx.wf,nt:=r.nt,nd:=r.nd.to (fun j u e _ _=>⟨hx.get _ _ e,Heap.lt e,u⟩) (fun l h=>.inl h) (fun l h=>.inl h),tms:=fun t=>(r.tms t).perm_keep hx,obs:=r.obs.keep fun l o _ e=>hx.get l o e,nodup:=r.nodup,apart:=r.apart,old:=r.old,lt:=fun l h=>Nat.lt_of_lt_of_le (r.lt l h) hx.n,p1:=r.p1,p2:=r.p2,pl:=fun l p=>(r.pl l p).elim fun o e=>⟨o,hx.get _ _ e⟩,ext:=r.ext.keep n,gl:=r.gl }
 refine vD_ok (g:=⟨g.H0,g.P0,g.B,g.μ0,g.ρ,fun r=>r<H.n∧g.U r⟩) (fun st a H P μ F h r=>h a H P μ F (hw r)) r.ext.n (fun r u=>u.1) hsz h r1 (Nat.le_refl _) hnd fun i hi=>⟨?_,fun p=>?_,fun hm=>?_⟩
 ·rw [List.all_eq_true] at hl;have:=hl i hi
  rwa [Nat.blt_eq] at this
 ·have:=r.plt _ p;omega
 ·have:=r.lt (H.n+i) (by simpa using hm);omega
end Go.Am.Vm

namespace Go.Am.Vm
variable {T:Tab} {st:St} {ops:Array Oper} {κ:St→Prop} {g:Gh} {bl:List Nat} {ds:List D}
def CallQ (T:Tab) (st:St) (f:FuncId) (ds:List D) (N:D→List Ob→Prop):Prop:=
 ∀ (g:Gh) (a:A) (H:Heap) (P:Nat→Prop) (μ:List Hd) (F:List Nat) (vs:List V),Rl g st a H P μ F []→RL P H μ ds vs [] →
   CallsTo T f vs H fun v H'=>∃ d so' μ' F',N d so'∧Rl g ⟨st.tm,so',st.n⟩ a H' P μ' F' []∧RL P H' μ' [d] [v] []
theorem callQ_pure {f:FuncId} {R:D→Prop} {N:D→List Ob→Prop} (h:VC T f (ds.map (im1 st.so)) R) (k:∀ d,R d→D.pr d=true∧okI d=true∧N (inD st.so d).1 (inD st.so d).2):CallQ T st f ds N:=by
 intro g a H P μ F vs r hv;have lt:=r.lt;simp only [List.nil_append] at lt;have hv2:=im1s_ok (μs:=[]) r.obs hv;refine (h (fun l=>P l∨l∈F) H vs r.wf (fun l hl=>hl.elim (r.pl l) fun h=>r.obs.get l h) hv2).mono fun v H' ⟨d,P',F',hR,q,nd,q2,q3,q4,q5⟩=>?_;obtain ⟨k1,k2,k3⟩:=k d hR;have hx:Ext H H':=⟨q5.n,fun l o e=>q5.get l o (fun h=>h) e,q5.wf⟩
 have r1:Rl g st a H' P μ F F':=r.after hx (fun l h=>h) (fun l h=>⟨.inl h,(r.pl l h).elim fun o e=>⟨o,hx.get _ _ e⟩⟩) nd fun l hl=>by
  obtain ⟨a1,a2,a3⟩:=q2 l hl;exact ⟨fun p=>a1 (q3 l (.inl p)),a2.elim (fun h=>h.elim) id,a3⟩
 obtain ⟨μ',F2,r2,p2,_⟩:=inD_ok (K:=F') (X:=[]) (by simpa using r1) (q.pr (by simp [prL,k1])) k2;exact ⟨_,_,μ',F2,k3,r2,p2⟩
theorem callQ_eq2 {f:FuncId} {N:D→List Ob→Prop} {ds':List D} {d0:D} (h:VC T f ds' fun d=>d=d0) (e:ds.map (im1 st.so)=ds'∧D.pr d0=true∧okI d0=true) (k:N (inD st.so d0).1 (inD st.so d0).2):CallQ T st f ds N:=
 callQ_pure (R:=fun d=>d=d0) (by rw [e.1];exact h) fun d hd=>by subst hd;exact ⟨e.2.1,e.2.2,k⟩
def sameA:D→Bool
 | .atom v=>sameV.same1 v v
 | .imm _ _=>true
 | _=>false
def sameD:D→Bool
 | .atom v=>sameV v v
 | .imm _ _=>true
 | .agg ds=>ds.all sameA
 | _=>false
theorem sameD_atom (v:V):sameD (.atom v)=sameV v v:=Eq.trans rfl rfl
theorem sameD_imm (s:Nat) (es:List (List D)):sameD (.imm s es)=true:=Eq.trans rfl rfl
theorem sameD_agg (ds:List D):sameD (.agg ds)=ds.all sameA:=Eq.trans rfl rfl
theorem sameA_imm (s:Nat) (es:List (List D)):sameA (.imm s es)=true:=Eq.trans rfl rfl
theorem sameA_int (k:IntKind) (n:Int):sameA (.atom (.int k n))=true:=by simp [sameA,sameV.same1]
theorem sameA_bool (b:Bool):sameA (.atom (.bool b))=true:=by simp [sameA,sameV.same1]
theorem sameA_str (s:List UInt8):sameA (.atom (.str s))=true:=by simp [sameA,sameV.same1]
theorem sameA_ok {P:Nat→Prop} {H:Heap} {μ:List Hd} {d:D} {v:V} (h:RL P H μ [d] [v] []) (hs:sameA d=true):sameV.same1 v v=true:=by
 cases d with
 | atom w=>rw [h.atomInv.2];exact hs
 | imm s es =>
   rcases h.immInv.2 with ⟨rfl,_⟩ | ⟨l,o,q,ro,cs,ws,rfl,_⟩
   ·rfl
   ·simp [sameV.same1]
 | _=>cases hs
theorem sameAs_ok {P:Nat→Prop} {H:Heap} {μ:List Hd}:∀ {ds:List D} {vs:List V},RL P H μ ds vs []→ds.all sameA=true→sameV.sameVs vs vs=true
 | [],vs,h,_=>by obtain ⟨rfl,_⟩:=h.nil_inv;rfl
 | d::ds,vs,h,hs=>by
   obtain ⟨v,vs',G1,G2,rfl,hF,q1,q2⟩:=h.uncons;have hF':=hF.symm;rw [List.append_eq_nil_iff] at hF';rw [hF'.1] at q1;rw [hF'.2] at q2;simp only [List.all_cons,Bool.and_eq_true] at hs;simp only [sameV.sameVs,sameA_ok q1 hs.1,sameAs_ok q2 hs.2,Bool.and_self]
theorem sameD_ok {P:Nat→Prop} {H:Heap} {μ:List Hd} {d:D} {v:V} (h:RL P H μ [d] [v] []) (hs:sameD d=true):sameV v v=true:=by
 cases d with
 | atom w=>rw [h.atomInv.2];exact hs
 | imm s es =>
   rcases h.immInv.2 with ⟨rfl,_⟩ | ⟨l,o,q,ro,cs,ws,rfl,_⟩
   ·rfl
   ·simp [sameV,sameV.same1]
 | agg ds =>
   obtain ⟨ws,rfl,q⟩:=h.aggInv;simp only [sameV];exact sameAs_ok q hs
 | _=>cases hs
def sameB (so:List Ob):D→Bool
 | .atom v=>sameV.same1 v v
 | .own k n=>aliveS so k n
 | _=>false
def sameC (so:List Ob):D→Bool
 | .atom v=>sameV v v
 | .own k n=>aliveS so k n
 | .agg ds=>ds.all (sameB so)
 | _=>false
variable {so:List Ob}
theorem sameC_atom (v:V):sameC so (.atom v)=sameV v v:=Eq.trans rfl rfl
theorem sameC_own (k n:Nat):sameC so (.own k n)=aliveS so k n:=Eq.trans rfl rfl
theorem sameC_agg (ds:List D):sameC so (.agg ds)=ds.all (sameB so):=Eq.trans rfl rfl
theorem sameB_own (k n:Nat):sameB so (.own k n)=aliveS so k n:=Eq.trans rfl rfl
theorem sameB_int (k:IntKind) (n:Int):sameB so (.atom (.int k n))=true:=by simp [sameB,sameV.same1]
theorem sameB_bool (b:Bool):sameB so (.atom (.bool b))=true:=by simp [sameB,sameV.same1]
theorem sameB_str (s:List UInt8):sameB so (.atom (.str s))=true:=by simp [sameB,sameV.same1]
theorem sameB_nil:sameB so (.atom .nilSlice)=true:=by simp [sameB,sameV.same1]
theorem own_same {P P':Nat→Prop} {H H':Heap} {μ μ':List Hd} {F:List Nat} {k n:Nat} {v v':V} (ol:OL P H μ μ so F) (ha:aliveS so k n=true) (gl:GoesL μ' μ) (h:RL P H μ [.own k n] [v] []) (h':RL P' H' μ' [.own k n] [v'] []) :
  v=v'∧sameV.same1 v' v=true∧sameV v' v=true:=by
 simp only [aliveS] at ha;split at ha
 ·rename_i s es hk;rw [Nat.beq_eq] at ha;obtain ⟨x,F1,Fk,F2,hx,rfl,o1,_⟩:=ol.at hk;obtain ⟨_,y,hy,hc⟩:=h.ownInv;rw [hx] at hy;cases hy;obtain ⟨_,z,hz,hcz⟩:=h'.ownInv;obtain ⟨x',hx',gx⟩:=gl _ _ hz;rw [hx] at hx';cases hx'
  have key:∀ w,x=.sl w es.length s→v=w∧v'=w:=by
   intro w e;refine ⟨(hc _ _ _ e).2 ha.symm,?_⟩;rcases gx.1 _ _ _ e with e2 | ⟨w0,m0,e2,hlt⟩
   ·exact (hcz _ _ _ e2).2 ha.symm
   ·have:=(hcz _ _ _ e2).1;omega
  rcases o1.slInv with ⟨rfl,rfl,rfl⟩ | ⟨l,q,pre,ws,rest,F',rfl,rfl,g',r',e,u1,c⟩
  ·obtain ⟨rfl,rfl⟩:=key _ rfl;exact ⟨rfl,rfl,rfl⟩
  ·obtain ⟨rfl,rfl⟩:=key _ rfl;exact ⟨rfl,by simp [sameV.same1],by simp [sameV,sameV.same1]⟩
 ·cases ha
theorem sameBs_ok {P P':Nat→Prop} {H H':Heap} {μ μ':List Hd} {F:List Nat} (ol:OL P H μ μ so F) (gl:GoesL μ' μ):∀ {ds:List D} {vs vs':List V},RL P H μ ds vs []→RL P' H' μ' ds vs' []→ds.all (sameB so)=true→sameV.sameVs vs' vs=true
 | [],vs,vs',h,h',_=>by obtain ⟨rfl,_⟩:=h.nil_inv;obtain ⟨rfl,_⟩:=h'.nil_inv;rfl
 | d::ds,vs,vs',h,h',hs=>by
   obtain ⟨v,ws,G1,G2,rfl,hF,q1,q2⟩:=h.uncons;obtain ⟨v',ws',G1',G2',rfl,hF',p1,p2⟩:=h'.uncons;have e1:=hF.symm;rw [List.append_eq_nil_iff] at e1;rw [e1.1] at q1;rw [e1.2] at q2;have e2:=hF'.symm;rw [List.append_eq_nil_iff] at e2;rw [e2.1] at p1;rw [e2.2] at p2;simp only [List.all_cons,Bool.and_eq_true] at hs
   have h1:sameV.same1 v' v=true:=by
    cases d with
    | atom w=>rw [q1.atomInv.2,p1.atomInv.2];exact hs.1
    | own k n=>exact (own_same ol hs.1 gl q1 p1).2.1
    | _=>cases hs.1
   simp only [sameV.sameVs,h1,sameBs_ok ol gl q2 p2 hs.2,Bool.and_self]
theorem sameC_ok {P P':Nat→Prop} {H H':Heap} {μ μ':List Hd} {F:List Nat} {d:D} {v v':V} (ol:OL P H μ μ so F) (gl:GoesL μ' μ) (h:RL P H μ [d] [v] []) (h':RL P' H' μ' [d] [v'] []) (hs:sameC so d=true):sameV v' v=true:=by
 cases d with
 | atom w=>rw [h.atomInv.2,h'.atomInv.2];exact hs
 | own k n=>exact (own_same ol hs gl h h').2.2
 | agg ds =>
   obtain ⟨ws,rfl,q⟩:=h.aggInv;obtain ⟨ws',rfl,q'⟩:=h'.aggInv;simp only [sameV];exact sameBs_ok ol gl q q' hs
 | _=>cases hs
def stoodX (T:Tab) (st:St) (sx:List Ob) (t:TypeId) (d:D):Option D→Prop
 | some (.iptr _ _)=>sameD d=true
 | some (.rptr k c)=>sameC st.so d=true∧vLoad T sx t (.rptr k c)=some d∧vLoad T st.so t (.rptr k c)=some d
 | _=>False
def stood1 (T:Tab) (st:St) (sx:List Ob) (d:D):Op→Prop
 | .load t x=>stoodX T st sx t d (st.eval x)
 | _=>False
def stoodS (T:Tab) (st:St) (o:Op) (d:D) (m:Nat):List (Nat×List Ob)→Prop
 | []=>True
 | h::sn=>(m.testBit h.1=true∨stood1 T st h.2 d o)∧stoodS T st o d m sn
theorem stoodX_iptr (sx:List Ob) (t:TypeId) (d:D) (cs:List D) (o:Nat):stoodX T st sx t d (some (.iptr cs o))=(sameD d=true):=Eq.trans rfl rfl
theorem stoodX_rptr (sx:List Ob) (t:TypeId) (d:D) (k c:Nat):stoodX T st sx t d (some (.rptr k c))=(sameC st.so d=true∧vLoad T sx t (.rptr k c)=some d∧vLoad T st.so t (.rptr k c)=some d):=Eq.trans rfl rfl
theorem stood1_load (sx:List Ob) (t:TypeId) (x:Operand) (d:D):stood1 T st sx d (.load t x)=stoodX T st sx t d (st.eval x):=Eq.trans rfl rfl
theorem stoodS_nil (o:Op) (d:D) (m:Nat):stoodS T st o d m []=True:=Eq.trans rfl rfl
theorem stoodS_cons (o:Op) (d:D) (m h:Nat) (sx:List Ob) (sn:List (Nat×List Ob)):stoodS T st o d m ((h,sx)::sn)=((m.testBit h=true∨stood1 T st sx d o)∧stoodS T st o d m sn):=Eq.trans rfl rfl
def vT (T:Tab) (ops:Array Oper) (bl:List Nat) (κ:St→Prop):List Nat→List (Nat×List Ob)→St→Prop
 | [],sn,st=>κ st
 | i::l,sn,st=>match ops[i]? with
   | some o=>match wantedD ops st o with
     | some true=>match vop T st o.op with
       | .val d so'=>(cond (reads o.op) (stoodS T st o.op d (bl.getD i 0) sn) True)∧vT T ops bl κ l (cond (isAlloc o.op || (reads o.op || quiet o.op)) sn ((i,st.so)::sn)) (St.put ⟨st.tm,so',st.n⟩ o.dst d)
       | .call f ds=>CallQ T st f ds fun d so'=>vT T ops bl κ l ((i,st.so)::sn) (St.put ⟨st.tm,so',st.n⟩ o.dst d)
       | .round _ _=>False
       | .stuck=>False
     | some false=>vT T ops bl κ l sn (st.put o.dst (.tuple []))
     | none=>False
   | none=>False
def vTN (T:Tab) (ops:Array Oper) (bl:List Nat) (κ:St→Prop) (l:List Nat) (sn:List (Nat×List Ob)) (dst:Option Tmp) (st:St) (d:D) (so':List Ob):Prop:=vT T ops bl κ l sn (St.put ⟨st.tm,so',st.n⟩ dst d)
def vTS (T:Tab) (ops:Array Oper) (bl:List Nat) (κ:St→Prop) (i:Nat) (l:List Nat) (sn:List (Nat×List Ob)) (o:Op) (dst:Option Tmp) (st:St):VR→Prop
 | .val d so'=>(cond (reads o) (stoodS T st o d (bl.getD i 0) sn) True)∧vT T ops bl κ l (cond (isAlloc o || (reads o || quiet o)) sn ((i,st.so)::sn)) (St.put ⟨st.tm,so',st.n⟩ dst d)
 | .call f ds=>CallQ T st f ds (vTN T ops bl κ l ((i,st.so)::sn) dst st)
 | .round _ _=>False
 | .stuck=>False
def vTW (T:Tab) (ops:Array Oper) (bl:List Nat) (κ:St→Prop) (i:Nat) (l:List Nat) (sn:List (Nat×List Ob)) (o:Oper) (st:St):Option Bool→Prop
 | some true=>vTS T ops bl κ i l sn o.op o.dst st (vop T st o.op)
 | some false=>vT T ops bl κ l sn (st.put o.dst (.tuple []))
 | none=>False
def vTO (T:Tab) (ops:Array Oper) (bl:List Nat) (κ:St→Prop) (i:Nat) (l:List Nat) (sn:List (Nat×List Ob)) (st:St):Option Oper→Prop
 | some o=>vTW T ops bl κ i l sn o st (wantedD ops st o)
 | none=>False
theorem vT_nil (sn:List (Nat×List Ob)):vT T ops bl κ [] sn st=κ st:=Eq.trans rfl rfl
theorem vT_cons (i:Nat) (l:List Nat) (sn:List (Nat×List Ob)):vT T ops bl κ (i::l) sn st=vTO T ops bl κ i l sn st ops[i]?:=by
 simp only [vT,vTO]
 cases ops[i]? with
 | none=>rfl
 | some o =>
   simp only
   cases wantedD ops st o with
   | none=>rfl
   | some b =>
     cases b
     ·rfl
     ·simp only [vTW]
      cases vop T st o.op <;> rfl
theorem vTO_some (i:Nat) (l:List Nat) (sn:List (Nat×List Ob)) (o:Oper):vTO T ops bl κ i l sn st (some o)=vTW T ops bl κ i l sn o st (wantedD ops st o):=Eq.trans rfl rfl
theorem vTW_true (i:Nat) (l:List Nat) (sn:List (Nat×List Ob)) (o:Oper):vTW T ops bl κ i l sn o st (some true)=vTS T ops bl κ i l sn o.op o.dst st (vop T st o.op):=Eq.trans rfl rfl
theorem vTW_false (i:Nat) (l:List Nat) (sn:List (Nat×List Ob)) (o:Oper):vTW T ops bl κ i l sn o st (some false)=vT T ops bl κ l sn (st.put o.dst (.tuple [])):=Eq.trans rfl rfl
theorem vTS_val (i:Nat) (l:List Nat) (sn:List (Nat×List Ob)) (o:Op) (dst:Option Tmp) (d:D) (so':List Ob):vTS T ops bl κ i l sn o dst st (.val d so')=((cond (reads o) (stoodS T st o d (bl.getD i 0) sn) True)∧vT T ops bl κ l (cond (isAlloc o || (reads o || quiet o)) sn ((i,st.so)::sn)) (St.put ⟨st.tm,so',st.n⟩ dst d)):=Eq.trans rfl rfl
theorem vTS_call (i:Nat) (l:List Nat) (sn:List (Nat×List Ob)) (o:Op) (dst:Option Tmp) (f:FuncId) (ds:List D):vTS T ops bl κ i l sn o dst st (.call f ds)=CallQ T st f ds (vTN T ops bl κ l ((i,st.so)::sn) dst st):=Eq.trans rfl rfl
theorem vTN_eq (l:List Nat) (sn:List (Nat×List Ob)) (dst:Option Tmp) (d:D) (so':List Ob):vTN T ops bl κ l sn dst st d so'=vT T ops bl κ l sn (St.put ⟨st.tm,so',st.n⟩ dst d):=Eq.trans rfl rfl
def Snap (P:Nat→Prop) (H:Heap) (μ:List Hd) (x:Nat×Heap×List Ob):Prop:=
 (∀ l,P l→x.2.1.get l=H.get l)∧∃ gx stx ax Px μx Fx,Rl gx stx ax x.2.1 Px μx Fx []∧stx.so=x.2.2∧GoesL μx μ
theorem Snap.go {P:Nat→Prop} {H H':Heap} {μ μ':List Hd} {x:Nat×Heap×List Ob} (h:Snap P H μ x) (k:∀ l,P l→H'.get l=H.get l) (g:GoesL μ μ'):Snap P H' μ' x:=by
 obtain ⟨h1,gx,stx,ax,Px,μx,Fx,rx,e,gl⟩:=h;exact ⟨fun l p=>(h1 l p).trans (k l p).symm,gx,stx,ax,Px,μx,Fx,rx,e,gl.trans g⟩
theorem Snap.mk {P:Nat→Prop} {H H':Heap} {μ μ':List Hd} {F:List Nat} {a:A} {i:Nat} (r:Rl g st a H P μ F []) (k:∀ l,P l→H'.get l=H.get l) (gl:GoesL μ μ'):Snap P H' μ' (i,H,st.so):=
 ⟨fun l p=>(k l p).symm,g,st,a,P,μ,F,r,rfl,gl⟩
def sH (S:List (Nat×Heap×List Ob)):List (Nat×Heap):=S.map fun x=>(x.1,x.2.1)
def sS (S:List (Nat×Heap×List Ob)):List (Nat×List Ob):=S.map fun x=>(x.1,x.2.2)
theorem stood_ok {a:A} {H:Heap} {P:Nat→Prop} {μ:List Hd} {F:List Nat} {o:Op} {v:V} {d:D} {H':Heap} {μ':List Hd} {P':Nat→Prop} {m:Nat} (r:Rl g st a H P μ F []) (e:execOp T a H o=.val v H') (q:RL P' H' μ' [d] [v] []) :
  ∀ {S:List (Nat×Heap×List Ob)},(∀ x,x∈S→Snap P H μ x)→stoodS T st o d m (sS S)→stoodL T a o v m (sH S)=true:=by
 intro S
 induction S with
 | nil=>intro _ _;rfl
 | cons x S ih =>
   intro hS hb;obtain ⟨h,Hh,sx⟩:=x;show stoodL T a o v m ((h,Hh)::sH S)=true;rw [stoodL_cons];replace hb:(m.testBit h=true∨stood1 T st sx d o)∧stoodS T st o d m (sS S):=hb;rw [ih (fun x hx=>hS x (by simp [hx])) hb.2,Bool.and_true,Bool.or_eq_true];rcases hb.1 with h1 | h1
   ·exact .inl h1
   ·right
    obtain ⟨hP,gx,stx,ax,Px,μx,Fx,rx,esx,gl⟩:=hS (h,Hh,sx) (by simp)
    cases o with
    | load t x =>
      rw [stood1_load] at h1
      cases he:st.eval x with
      | none=>rw [he] at h1;cases h1
      | some d0 =>
        rw [he] at h1
        cases d0 with
        | iptr cs o0 =>
          rw [stoodX_iptr] at h1;obtain ⟨p,e1,q1⟩:=r.evalOk he;obtain ⟨_,l,b,ro,us,ws,rfl,hp,hg,_,_⟩:=q1.iptrInv;have hh:Hh.get l=H.get l:=hP l hp
          have el:loadP T Hh t (.ptr l (b+o0))=loadP T H t (.ptr l (b+o0)):=by
           simp only [loadP,loadVar,cellsAt,hh]
          rw [xo_load] at e ⊢;simp only [op1,e1,el] at e ⊢
          cases hl:loadP T H t (.ptr l (b+o0)) with
          | none=>rw [hl] at e;cases e
          | some u =>
            rw [hl] at e;rw [ofV_some] at e ⊢
            cases e
            rw [sameR_val];exact sameD_ok q h1
        | rptr k c =>
          rw [stoodX_rptr] at h1;obtain ⟨h1,h2,h3⟩:=h1;obtain ⟨p,e1,q1⟩:=r.evalOk he;obtain ⟨_,y,hy,hc⟩:=q1.rptrInv
          -- now
          have h3':=h3;simp only [vLoad] at h3';split at h3'
          ·rename_i cs hk;obtain ⟨y',_,_,_,hy',_,o1,_⟩:=r.obs.at hk;rw [hy] at hy';cases hy';obtain ⟨l,ws,rfl,_,_,_⟩:=o1.cellInv;obtain rfl:=hc _ rfl
           -- then
           have h2':=h2;simp only [vLoad] at h2';split at h2'
           ·rename_i cs2 hk2;obtain ⟨z,_,_,_,hz,_,o2,_⟩:=rx.obs.at (show stx.so[k]?=some (.cell cs2) from by rw [esx];exact hk2);obtain ⟨l0,ws0,rfl,_,_,_⟩:=o2.cellInv;obtain ⟨z',hz',gz⟩:=gl k _ hz;rw [hy] at hz';cases hz';have el:=gz.2 l rfl
            cases el
            have qx:RL Px Hh μx [.rptr k c] [.ptr l c] []:=.rptr hz (fun l' e=>by cases e;rfl) .nil;obtain ⟨l1,o1',u1,e3,e4,e5⟩:=rx.loadOk (t:=t) (by rw [esx];exact h2) qx
            cases e3
            have ex:loadP T Hh t (.ptr l c)=some u1:=e4;obtain ⟨l2,o2',u2,e6,e7,e8⟩:=r.loadOk (t:=t) h3 q1
            cases e6
            have ex2:loadP T H t (.ptr l c)=some u2:=e7;rw [xo_load] at e ⊢;simp only [op1,e1] at e ⊢;rw [ex2,ofV_some] at e
            cases e
            rw [ex,ofV_some,sameR_val];exact sameC_ok r.obs gl e8 e5 h1
           ·cases h2'
          ·cases h3'
        | _=>cases h1
    | _=>cases h1
theorem vT_ok {k:List Fr} {Q:Qt} {k0 n:Nat} (hκ:∀ st a H P μ F,κ st→Rl g st a H P μ F []→unw T g.ρ Q k .normal a H) (hk0:g.H0.n≤k0) (hU:∀ r,g.U r→r<k0) (hsz:ops.size=n) :
  ∀ {l:List Nat} {S:List (Nat×Heap×List Ob)} {st:St} {a:A} {H:Heap} {P:Nat→Prop} {μ:List Hd} {F:List Nat},vT T ops bl κ l (sS S) st→Rl g st a H P μ F []→(∀ x,x∈S→Snap P H μ x)→k0+n≤H.n→l.Nodup→(∀ i,i∈l→i<n∧¬ P (k0+i)∧¬ (k0+i)∈F)→WpT T g.ρ ops bl k0 l (sH S) k a H Q
 | [],S,st,a,H,P,μ,F,h,r,_,_,_,_=>by rw [wpT_nil];exact hκ _ _ _ _ _ _ h r
 | i::l,S,st,a,H,P,μ,F,h,r,hS,hn,hnd,hfree=>by
   rw [vT_cons] at h;rw [wpT_cons];rw [List.nodup_cons] at hnd
   cases ho:ops[i]? with
   | none=>rw [ho] at h;exact h.elim
   | some o =>
     rw [ho,vTO_some] at h;rw [wpTO_some];have hi:i<n:=by rw [← hsz];exact (Array.getElem?_eq_some_iff.1 ho).1
     cases hw:wantedD ops st o with
     | none=>rw [hw] at h;exact h.elim
     | some b =>
       rw [hw] at h;rw [wantedOk r hw]
       cases b with
       | false =>
         rw [wpTW_false];rw [vTW_false] at h;exact vT_ok hκ hk0 hU hsz h (r.putOk o.dst (RL.tuple1 .nil)) hS hn hnd.2 fun j hj=>hfree j (by simp [hj])
       | true =>
         rw [wpTW_true];rw [vTW_true] at h
         have keepP:∀ {st':St} {H':Heap} {P':Nat→Prop} {μ':List Hd} {F':List Nat},Rl (now g H P μ F) st' a H' P' μ' F' []→∀ l,P l→H'.get l=H.get l:=by
          intro st' H' P' μ' F' r1 j hj;obtain ⟨ob,eo⟩:=r.pl j hj;rw [eo];exact r1.ext.get j ob (fun hf=>r.apart j (show j∈[]++F from by rw [List.nil_append];exact hf) hj) eo
         cases hal:isAlloc o.op with
         | true =>
           rw [cond_true]
           cases hv:vop T st o.op with
           | stuck=>rw [hv] at h;exact h.elim
           | call f ds=>exact ((vop_alloc_no_call hal).1 hv).elim
           | round f ds=>exact ((vop_alloc_no_call hal).2 hv).elim
           | val d so' =>
             rw [hv,vTS_val] at h;replace h:=h.2;rw [hal,Bool.true_or,cond_true] at h;obtain ⟨mk,ob,e1,pl⟩:=anyPlace (T:=T) r.toNow hal hv
             have hq:quietAt T a (k0+i) o.op=some (mk (k0+i),some ob):=by
              have e2:=e1 ⟨k0+i,.leaf⟩;unfold quietAt;rw [e2];simp only [Heap.push]
              have hb:Nat.beq (k0+i+1) (k0+i)=false:=by
               cases h:Nat.beq (k0+i+1) (k0+i)
               ·rfl
               ·rw [Nat.beq_eq] at h;omega
              rw [hb,cond_false];have e3:=get_push_same ⟨k0+i,.leaf⟩ ob;simp only [Heap.push] at e3;rw [e3]
             rw [hq,wpTA_some];obtain ⟨_,f1,f2⟩:=hfree i (by simp);obtain ⟨mk',ob',e1',pl'⟩:=anyPlace (T:=T) r hal hv
             have hmk:mk' (k0+i)=mk (k0+i)∧ob'=ob:=by
              have a1:=e1 ⟨k0+i,.leaf⟩;rw [e1' ⟨k0+i,.leaf⟩] at a1;simp only [OR.val.injEq] at a1;refine ⟨a1.1,?_⟩;have a2:=congrArg (fun H:Heap=>H.get (k0+i)) a1.2;have e3:=get_push_same ⟨k0+i,.leaf⟩ ob;have e4:=get_push_same ⟨k0+i,.leaf⟩ ob';simp only at a2 e3 e4;rw [e3,e4] at a2;exact Option.some.inj a2
             obtain ⟨μ',F',r1,q1,hF,gx⟩:=pl' (k0+i) (by omega) f1 (by omega) f2 (fun u=>by have:=hU _ u;omega);rw [hmk.1,hmk.2] at q1;rw [hmk.2] at r1
             have fr:∀ j,j∈l→j<n∧¬ P (k0+j)∧¬ (k0+j)∈F':=by
              intro j hj;obtain ⟨b1,b2,b3⟩:=hfree j (by simp [hj]);refine ⟨b1,b2,fun hm=>?_⟩;rcases hF _ hm with h | h
              ·exact b3 h
              ·have:j=i:=by omega
               subst this;exact hnd.1 hj
             exact vT_ok hκ hk0 hU hsz h (r1.putOk o.dst q1) (fun x hx=>(hS x hx).go (fun j hj=>by rw [Heap.get_put_ne (fun e=>f1 (by first | (rw [← e];exact hj) | (rw [e];exact hj)))]) gx) (by rw [Heap.n_put];exact hn) hnd.2 fr
         | false =>
           rw [cond_false];have hop:=vop_ok (T:=T) r.toNow o.op
           cases hv:vop T st o.op with
           | stuck=>rw [hv] at h;exact h.elim
           | round f ds=>rw [hv] at h;exact h.elim
           | val d so' =>
             rw [hv] at h hop;obtain ⟨v,H',μ',F',e,r1,q1⟩:=hop;rw [vTS_val,hal,Bool.false_or] at h;have hS':∀ x,x∈S→Snap P H' μ' x:=fun x hx=>(hS x hx).go (keepP r1) r1.gl
             have fr:∀ j,j∈l→j<n∧¬ P (k0+j)∧¬ (k0+j)∈F':=fun j hj=>by
              obtain ⟨f0,f1,f2⟩:=hfree j (by simp [hj]);exact ⟨f0,by simpa using r1.freeNow (by omega) f1 f2⟩
             rw [e,wpTX_val]
             cases hr:reads o.op with
             | true =>
               rw [hr] at h;simp only [cond_true,Bool.true_or] at h ⊢;exact ⟨stood_ok r e q1 hS h.1,vT_ok hκ hk0 hU hsz h.2 ((r.ofNow r1).putOk o.dst q1) hS' (Nat.le_trans hn r1.ext.n) hnd.2 fr⟩
             | false =>
               rw [hr] at h;simp only [cond_false,Bool.false_or,true_and] at h ⊢
               cases hqq:quiet o.op with
               | true =>
                 rw [hqq] at h;exact vT_ok hκ hk0 hU hsz h ((r.ofNow r1).putOk o.dst q1) hS' (Nat.le_trans hn r1.ext.n) hnd.2 fr
               | false =>
                 rw [hqq] at h;exact vT_ok (S:=(i,H,st.so)::S) hκ hk0 hU hsz h ((r.ofNow r1).putOk o.dst q1) (fun x hx=>(List.mem_cons.1 hx).elim (fun e=>e ▸ Snap.mk r (keepP r1) r1.gl) (hS' x)) (Nat.le_trans hn r1.ext.n) hnd.2 fr
           | call f ds =>
             rw [hv] at h hop;obtain ⟨vs,e,q1⟩:=hop;rw [e];rw [vTS_call] at h;refine wpTX_call (h _ a H P μ F vs r.toNow q1) fun v H' ⟨d,so',μ',F',h1,r1,q1⟩=>?_;refine vT_ok (S:=(i,H,st.so)::S) hκ hk0 hU hsz h1 ((r.ofNow r1).putOk o.dst q1) (fun x hx=>(List.mem_cons.1 hx).elim (fun e=>e ▸ Snap.mk r (keepP r1) r1.gl) fun hx=>(hS x hx).go (keepP r1) r1.gl) (Nat.le_trans hn r1.ext.n) hnd.2 fun j hj=>?_;obtain ⟨f0,f1,f2⟩:=hfree j (by simp [hj]);exact ⟨f0,by simpa using r1.freeNow (by omega) f1 f2⟩
theorem sk_draw2 {k:List Fr} {Q:Qt} (n:Nat) (l bl:List Nat) {id:Nat} (hd:drawChk2 T ops n l bl=true) (hl:(l.all fun i=>Nat.blt i n)=true) (hnd:l.Nodup) (h:vT T ops bl (SU g T k .normal Q) l [] st):SK g T (.region id ops true) k st Q:=by
 intro a H P μ F r;refine wpK_draw2 n l bl r.wf hd ?_;have hw:∀ {st a H' P' μ' F'},Rl ⟨g.H0,g.P0,g.B,g.μ0,g.ρ,fun r=>r<H.n∧g.U r⟩ st a H' P' μ' F' []→Rl g st a H' P' μ' F' []:=fun r=>{ wf:=r.wf,nt:=r.nt,nd:=r.nd.to (fun _ u e _ _=>⟨e,u.2⟩) (fun l h=>.inl h) (fun l h=>.inl h),tms:=r.tms,obs:=r.obs,nodup:=r.nodup,apart:=r.apart,old:=r.old,lt:=r.lt,p1:=r.p1,p2:=r.p2,pl:=r.pl,ext:=r.ext,gl:=r.gl }
 have hsz:ops.size=n:=by
  simp only [drawChk2,Bool.and_eq_true,Nat.beq_eq] at hd;exact hd.1.1.1.1
 have hx:Ext H (H.keep n):=(Ext.refl r.wf).keep n;have r1:Rl ⟨g.H0,g.P0,g.B,g.μ0,g.ρ,fun r=>r<H.n∧g.U r⟩ st a (H.keep n) P μ F []:={ wf:=hx.wf,nt:=r.nt,nd:=r.nd.to (fun j u e _ _=>⟨hx.get _ _ e,Heap.lt e,u⟩) (fun l h=>.inl h) (fun l h=>.inl h),tms:=fun t=>(r.tms t).perm_keep hx,obs:=r.obs.keep fun l o _ e=>hx.get l o e,nodup:=r.nodup,apart:=r.apart,old:=r.old,lt:=fun l h=>Nat.lt_of_lt_of_le (r.lt l h) hx.n,p1:=r.p1,p2:=r.p2,pl:=fun l p=>(r.pl l p).elim fun o e=>⟨o,hx.get _ _ e⟩,ext:=r.ext.keep n,gl:=r.gl }
 refine vT_ok (g:=⟨g.H0,g.P0,g.B,g.μ0,g.ρ,fun r=>r<H.n∧g.U r⟩) (S:=[]) (fun st a H P μ F h r=>h a H P μ F (hw r)) r.ext.n (fun r u=>u.1) hsz h r1 (fun x hx=>by cases hx) (Nat.le_refl _) hnd fun i hi=>⟨?_,fun p=>?_,fun hm=>?_⟩
 ·rw [List.all_eq_true] at hl;have:=hl i hi
  rwa [Nat.blt_eq] at this
 ·have:=r.plt _ p;omega
 ·have:=r.lt (H.n+i) (by simpa using hm);omega
end Go.Am.Vm
set_option linter.defProp false
namespace Go.Am
def vt:=And.intro @Vm.vT_nil<|And.intro @Vm.vT_cons<|And.intro @Vm.vTO_some<|And.intro @Vm.vTW_true<|And.intro @Vm.vTW_false<|And.intro @Vm.vTS_val<|And.intro @Vm.vTS_call<|And.intro @Vm.vTN_eq<|And.intro @Vm.stoodS_nil<|And.intro @Vm.stoodS_cons<|And.intro @Vm.stood1_load<|And.intro @Vm.stoodX_iptr<|And.intro @Vm.stoodX_rptr<|And.intro @Vm.sameC_atom<|And.intro @Vm.sameC_own<|And.intro @Vm.sameB_own<|And.intro @Vm.sameB_nil<|And.intro @Vm.sameC_agg<|And.intro @Vm.sameB_int<|And.intro @Vm.sameB_bool<|And.intro @Vm.sameB_str<|And.intro @Vm.sameD_atom<|And.intro @Vm.sameD_imm<|And.intro @Vm.sameD_agg<|And.intro @Vm.sameA_imm<|And.intro @Vm.sameA_int<|And.intro @Vm.sameA_bool<|And.intro @Vm.sameA_str<|And.intro @sameV_int<|And.intro @sameV_bool @sameV_str
end Go.Am

namespace Go.Am.Vm
open Go.Am
variable {T:Tab} {P Q:Nat→Prop} {H H':Heap} {μ:List Hd} {ds:List D} {vs ws:List V} {F:List Nat} {d:D} {v:V} {n:Nat}
end Go.Am.Vm

namespace Go.Am.Vm
open Go.Am
variable {T:Tab} {P P':Nat→Prop} {H H':Heap} {μ μ':List Hd} {ds es cs:List D} {vs ws us:List V} {F G X K F' X':List Nat} {d:D} {v:V} {so so':List Ob} {s n:Nat} {ob:Ob}
 {g:Gh} {tm tm':List (Nat×D)} {a:A} {μ0 hs:List Hd} {obs:List Ob}
def ren0 (ρ:List Nat):D→D
 | .own k n=>.own (ρ.getD k 0) n
 | .optr k n j c=>.optr (ρ.getD k 0) n j c
 | .rptr k c=>.rptr (ρ.getD k 0) c
 | .omap k=>.omap (ρ.getD k 0)
 | d=>d
def ren (ρ:List Nat):D→D
 | .agg ds=>.agg (ds.map (ren0 ρ))
 | .tuple ds=>.tuple (ds.map (ren0 ρ))
 | .fn f u w=>.fn f (u.map (ren0 ρ)) (w.map (ren0 ρ))
 | .iface t d=>.iface t (ren0 ρ d)
 | d=>ren0 ρ d
def renO (ρ:List Nat):Ob→Ob
 | .cell cs=>.cell (cs.map (ren0 ρ))
 | o=>o
def leTr (ρ:List Nat) (tm:List (Nat×D)):List (Nat×D)→Prop
 | []=>True
 | (t,d)::l=>(tget tm t=ren ρ d∧bel ρ.length d=true)∧leTr ρ tm l
def leSr (ρ0:List Nat) (so:List Ob):List Nat→List Ob→Prop
 | [],[]=>True
 | k::ρ,x::xs=>(so[k]?=some (renO ρ0 x)∧belO ρ0.length x=true)∧leSr ρ0 so ρ xs
 | _,_=>False
theorem leTr_nil (ρ:List Nat):leTr ρ tm []=True:=Eq.trans rfl rfl
theorem leTr_cons (ρ:List Nat) (t:Nat) (d:D) (l:List (Nat×D)):leTr ρ tm ((t,d)::l)=((tget tm t=ren ρ d∧bel ρ.length d=true)∧leTr ρ tm l):=Eq.trans rfl rfl
theorem leSr_nil (ρ:List Nat):leSr ρ so [] []=True:=Eq.trans rfl rfl
theorem leSr_cons (ρ0:List Nat) (k:Nat) (ρ:List Nat) (x:Ob) (xs:List Ob):leSr ρ0 so (k::ρ) (x::xs)=((so[k]?=some (renO ρ0 x)∧belO ρ0.length x=true)∧leSr ρ0 so ρ xs):=Eq.trans rfl rfl
theorem ren_own (ρ:List Nat) (k n:Nat):ren ρ (.own k n)=.own (ρ.getD k 0) n:=Eq.trans rfl rfl
theorem ren_optr (ρ:List Nat) (k n j c:Nat):ren ρ (.optr k n j c)=.optr (ρ.getD k 0) n j c:=Eq.trans rfl rfl
theorem ren_rptr (ρ:List Nat) (k c:Nat):ren ρ (.rptr k c)=.rptr (ρ.getD k 0) c:=Eq.trans rfl rfl
theorem ren_omap (ρ:List Nat) (k:Nat):ren ρ (.omap k)=.omap (ρ.getD k 0):=Eq.trans rfl rfl
theorem ren0_omap (ρ:List Nat) (k:Nat):ren0 ρ (.omap k)=.omap (ρ.getD k 0):=Eq.trans rfl rfl
theorem ren_atom (ρ:List Nat) (v:V):ren ρ (.atom v)=.atom v:=Eq.trans rfl rfl
theorem ren_imm (ρ:List Nat) (s:Nat) (es:List (List D)):ren ρ (.imm s es)=.imm s es:=Eq.trans rfl rfl
theorem ren_iptr (ρ:List Nat) (cs:List D) (o:Nat):ren ρ (.iptr cs o)=.iptr cs o:=Eq.trans rfl rfl
theorem ren_agg (ρ:List Nat) (ds:List D):ren ρ (.agg ds)=.agg (ds.map (ren0 ρ)):=Eq.trans rfl rfl
theorem ren_fn (ρ:List Nat) (f:FuncId) (u w:List D):ren ρ (.fn f u w)=.fn f (u.map (ren0 ρ)) (w.map (ren0 ρ)):=Eq.trans rfl rfl
theorem ren_iface (ρ:List Nat) (t:TypeId) (d:D):ren ρ (.iface t d)=.iface t (ren0 ρ d):=Eq.trans rfl rfl
theorem ren0_own (ρ:List Nat) (k n:Nat):ren0 ρ (.own k n)=.own (ρ.getD k 0) n:=Eq.trans rfl rfl
theorem ren0_rptr (ρ:List Nat) (k c:Nat):ren0 ρ (.rptr k c)=.rptr (ρ.getD k 0) c:=Eq.trans rfl rfl
theorem ren0_atom (ρ:List Nat) (v:V):ren0 ρ (.atom v)=.atom v:=Eq.trans rfl rfl
theorem ren0_imm (ρ:List Nat) (s:Nat) (es:List (List D)):ren0 ρ (.imm s es)=.imm s es:=Eq.trans rfl rfl
theorem renO_cell (ρ:List Nat) (cs:List D):renO ρ (.cell cs)=.cell (cs.map (ren0 ρ)):=Eq.trans rfl rfl
theorem renO_mp (ρ:List Nat) (ms:List (V×D)):renO ρ (.mp ms)=.mp ms:=Eq.trans rfl rfl
theorem renO_sl (ρ:List Nat) (s:Nat) (es:List (List D)):renO ρ (.sl s es)=.sl s es:=Eq.trans rfl rfl
def pickH (μ:List Hd) (ρ:List Nat):List Hd:=ρ.map fun k=>μ.getD k .dead
theorem pickH_get {ρ:List Nat} {k:Nat} (hk:k<ρ.length):(pickH μ ρ)[k]?=some (μ.getD (ρ.getD k 0) .dead):=by
 simp [pickH,hk]
theorem renL_ok {ρ:List Nat}:∀ {ds:List D} {vs:List V},RL P H μ (ds.map (ren0 ρ)) vs []→belL ρ.length ds=true→RL P H (pickH μ ρ) ds vs []
 | [],vs,h,_=>by obtain ⟨rfl,_⟩:=h.nil_inv;exact .nil
 | d::ds,vs,h,hb=>by
   simp only [belL,Bool.and_eq_true] at hb;simp only [List.map_cons] at h;obtain ⟨v,vs',G1,G2,rfl,hF,q1,q2⟩:=h.uncons;have hF':=hF.symm;rw [List.append_eq_nil_iff] at hF';rw [hF'.1] at q1;rw [hF'.2] at q2;have ih:=renL_ok q2 hb.2
   have one:RL P H (pickH μ ρ) [d] [v] []:=by
    have low:∀ {k:Nat} {x:Hd},Nat.blt k ρ.length=true→μ[ρ.getD k 0]?=some x→(pickH μ ρ)[k]?=some x:=fun {k x} hk hx=>by
     rw [Nat.blt_eq] at hk;rw [pickH_get hk,List.getD_eq_getElem?_getD,hx];rfl
    have hb1:=hb.1
    cases d with
    | own k n=>obtain ⟨_,x,hx,hc⟩:=RL.ownInv q1;exact .own (low hb1 hx) hc .nil
    | optr k n j c=>obtain ⟨_,x,hx,hc⟩:=RL.optrInv q1;exact .optr (low hb1 hx) hc .nil
    | rptr k c=>obtain ⟨_,x,hx,hc⟩:=RL.rptrInv q1;exact .rptr (low hb1 hx) hc .nil
    | omap k=>obtain ⟨_,x,hx,hc⟩:=RL.omapInv q1;exact .omap (low hb1 hx) hc .nil
    | _=>exact RL.nl q1 (by simpa [nlL,ren0] using hb1)
   simpa using one.cons ih
theorem ren_ok {ρ:List Nat} (h:RL P H μ [ren ρ d] [v] []) (hb:bel ρ.length d=true):RL P H (pickH μ ρ) [d] [v] []:=by
 cases d with
 | agg ds=>obtain ⟨ws,rfl,q⟩:=RL.aggInv h;exact (renL_ok q hb).agg1
 | tuple ds=>obtain ⟨ws,rfl,q⟩:=RL.tupleInv h;exact (renL_ok q hb).tuple1
 | iface t d=>obtain ⟨w,rfl,q⟩:=RL.ifaceInv h;exact (renL_ok (ds:=[d]) q hb).iface1
 | fn f u w =>
   obtain ⟨us,ws,F1,F2,rfl,hF,r1,r2⟩:=RL.fnInv h;have hF':=hF.symm;rw [List.append_eq_nil_iff] at hF';rw [hF'.1] at r1;rw [hF'.2] at r2;simp only [bel,Bool.and_eq_true] at hb;exact (renL_ok r1 hb.1).fn1 (renL_ok r2 hb.2)
 | _=>exact renL_ok (ds:=[_]) h hb
theorem leTr_get {ρ:List Nat}:∀ {l:List (Nat×D)},leTr ρ tm l→∀ t,tget l t=.unk∨(tget tm t=ren ρ (tget l t)∧bel ρ.length (tget l t)=true)
 | [],_,t=>.inl rfl
 | (i,d)::l,h,t=>by
   obtain ⟨⟨h1,h2⟩,h3⟩:=h;simp only [tget];split
   ·rename_i e;subst e;exact .inr ⟨h1,h2⟩
   ·exact leTr_get h3 t
theorem OL.flat (h:OL P H μ0 hs obs F):(∀ ob,ob∈obs→((∀ cs,ob≠.cell cs)∧∀ ms,ob≠.mp ms)∧∀ s es,ob=.sl s es→nlR es=true)→∀ (μ1:List Hd),OL P H μ1 hs obs F:=by
 induction h with
 | nil=>exact fun _ _=>.nil
 | dead h ih=>exact fun k μ1=>.dead (ih (fun ob hob=>k ob (by simp [hob])) μ1)
 | ghost s kk e h ih=>exact fun k μ1=>.ghost s kk e (ih (fun ob hob=>k ob (by simp [hob])) μ1)
 | slNil h ih=>exact fun k μ1=>.slNil (ih (fun ob hob=>k ob (by simp [hob])) μ1)
 | @sl l s q pre ws rest es hs obs F G g r e u c h ih=>exact fun k μ1=>.sl g (r.nl (by rw [nlR_flatten];exact (k (.sl s es) (by simp)).2 s es rfl)) e u c (ih (fun ob hob=>k ob (by simp [hob])) μ1)
 | @cell l ws cs hs obs G g r h ih=>exact fun k μ1=>absurd rfl ((k (.cell cs) (by simp)).1.1 cs)
 | @mp l es ms hs obs G g e r h ih=>exact fun k μ1=>absurd rfl ((k (.mp ms) (by simp)).1.2 ms)
theorem RL.freshInv {es:List (List D)} (h:RL P H μ [.fresh s es] [v] F):(v=.nilSlice∧es=[]∧F=[])∨∃ l q pre ws rest F',v=.slice l pre.length es.length s q∧F=l::F'∧H.get l=some (.cells false (pre++(ws++rest)))∧RL P H [] es.flatten ws F'∧(∀ e,e∈es→e.length=s) ∧
  ws.all V.one=true∧∀ m,q=some m→es.length≤m∧(m - es.length) * s≤rest.length:=by
 cases h with
 | freshNil h=>obtain ⟨_,rfl⟩:=h.nil_inv;exact .inl ⟨rfl,rfl,rfl⟩
 | fresh g r e u c h=>obtain ⟨_,rfl⟩:=h.nil_inv;exact .inr ⟨_,_,_,_,_,_,rfl,by simp,g,r,e,u,c⟩
theorem OL.pick {ρ0:List Nat}:∀ {ρ:List Nat} {xs:List Ob} {hs:List Hd} {obs:List Ob} {F:List Nat},OL P H μ0 hs obs F→ρ.Nodup→leSr ρ0 obs ρ xs →
  ∃ F',OL P H (pickH μ0 ρ0) (pickH hs ρ) xs F'∧∀ a,F'.count a≤F.count a
 | [],[],hs,obs,F,h,_,_=>⟨[],.nil,fun a=>by simp⟩
 | [],_::_,_,_,_,_,_,h=>h.elim
 | _::_,[],_,_,_,_,_,h=>h.elim
 | k::ρ,x::xs,hs,obs,F,h,nd,hl=>by
   obtain ⟨⟨h1,h2⟩,h3⟩:=hl;rw [List.nodup_cons] at nd;obtain ⟨y,F1,Fk,F2,hy,rfl,o1,put⟩:=h.at h1;have o2:=put P H .dead .dead [] (fun l h=>h) (.dead .nil) fun l o _ e=>e
   have keep:∀ {ρ:List Nat} {xs:List Ob},¬ k∈ρ→leSr ρ0 obs ρ xs→leSr ρ0 (obs.set k .dead) ρ xs:=by
    intro ρ
    induction ρ with
    | nil=>intro xs _ h;cases xs <;> exact h
    | cons j ρ ih =>
      intro xs hn h
      cases xs with
      | nil=>exact h
      | cons x xs =>
        obtain ⟨⟨a1,a2⟩,a3⟩:=h;simp only [List.mem_cons,not_or] at hn;exact ⟨⟨by rw [List.getElem?_set_ne hn.1];exact a1,a2⟩,ih hn.2 a3⟩
   obtain ⟨F',o3,hc⟩:=OL.pick o2 nd.2 (keep nd.1 h3)
   have e2:pickH (hs.set k .dead) ρ=pickH hs ρ:=by
    apply List.map_congr_left;intro j hj;have:k≠j:=fun e=>nd.1 (e ▸ hj);rw [List.getD_eq_getElem?_getD,List.getD_eq_getElem?_getD,List.getElem?_set_ne this]
   rw [e2] at o3
   have e1:pickH hs (k::ρ)=y::pickH hs ρ:=by
    simp only [pickH,List.map_cons,List.getD_eq_getElem?_getD,hy,Option.getD_some]
   have o4:OL P H (pickH μ0 ρ0) [y] [x] Fk:=by
    cases x with
    | cell cs =>
      obtain ⟨l,ws,rfl,rfl,g',r'⟩:=o1.cellInv;exact .cell g' (renL_ok r' h2) .nil
    | dead=>exact OL.flat (obs:=[.dead]) o1 (by simp) _
    | ghost K=>exact OL.flat (obs:=[.ghost K]) o1 (by simp) _
    | mp ms =>
      obtain ⟨l,es,rfl,rfl,g',e',r'⟩:=o1.mpInv;exact .mp g' e' (r'.nl h2) .nil
    | sl s es=>exact OL.flat (obs:=[.sl s es]) o1 (by intro ob hob;simp only [List.mem_singleton] at hob;subst hob;exact ⟨⟨fun cs e=>Ob.noConfusion e,fun cs e=>Ob.noConfusion e⟩,fun s' es' e=>by cases e;exact h2⟩) _
   refine ⟨Fk++F',by rw [e1];exact o4.app o3,fun a=>?_⟩;have:=hc a;simp only [List.count_append,List.count_nil] at this ⊢;omega
theorem le_ren (ρ:List Nat) {n':Nat} (hg:g.μ0=[]) (hn:n=n') (nd:ρ.Nodup) (h1:leTr ρ tm tm') (h2:leSr ρ so ρ so'):Le g ⟨tm,so,n⟩ ⟨tm',so',n'⟩:=by
 subst hn;intro a H P μ F r;obtain ⟨F',o,hc⟩:=r.obs.pick nd h2;have hc':∀ a,([]++F').count a≤([]++F).count a:=fun a=>by simpa using hc a
 refine ⟨P,pickH μ ρ,F',{ wf:=r.wf,nt:=r.nt,nd:=r.nd.same fun l h=>mem_le hc' h,tms:=fun t=>?_,obs:=o,nodup:=nodup_le r.nodup hc',apart:=fun l h=>r.apart l (mem_le hc' h),old:=fun l h=>r.old l (mem_le hc' h),lt:=fun l h=>r.lt l (mem_le hc' h),p1:=r.p1,p2:=r.p2,pl:=r.pl,ext:=r.ext,gl:=by rw [hg];exact fun k h e=>by simp at e }⟩;rcases leTr_get h1 t with e | ⟨e,hb⟩
 ·simp only [e];exact .unk .nil
 ·have h3:=r.tms t;simp only at h3;rw [e] at h3;exact ren_ok h3 hb
theorem le_ren2 (ρ:List Nat) {tm':List (Nat×D)} {so':List Ob} {n':Nat} (hg:g.μ0=[]) (hn:n=n') (nd:ρ.Nodup) (h:leTr ρ tm tm'∧leSr ρ so ρ so'):Le g ⟨tm,so,n⟩ ⟨tm',so',n'⟩:=le_ren ρ hg hn nd h.1 h.2
end Go.Am.Vm

namespace Go.Am
def vb0:=ai @Vm.tget_cons<|ai @Vm.tget_nil<|ai @Vm.put_none<|ai @Vm.put_some<|ai @Vm.ev1_tmp<|ai @Vm.ev1_int<|ai @Vm.ev1_bool<|ai @Vm.ev1_str<|ai @Vm.ev1_nilSlice<|ai @Vm.ev1_nilPtr<|ai @Vm.ev1_nilFunc<|ai @Vm.ev1_nilIface<|ai @Vm.ev1_nilMap<|ai @Vm.ev1_func<|ai @Vm.eval_tmp<|ai @Vm.eval_int<|ai @Vm.eval_bool<|ai @Vm.eval_str<|ai @Vm.eval_nilSlice<|ai @Vm.eval_nilFunc<|ai @Vm.eval_nilIface<|ai @Vm.eval_nilPtr<|ai @Vm.eval_nilMap<|ai @Vm.eval_func<|ai @Vm.consO_some<|ai @Vm.vevals_nil<|ai @Vm.vevals_cons<|ai @Vm.vparts_nil<|ai @Vm.vparts_cons @Vm.evalOptD_none
def vb1:=ai @Vm.evalOptD_some<|ai @Vm.vop_move<|ai @Vm.vop_assign<|ai @Vm.vop_pick<|ai @Vm.vPick_true<|ai @Vm.vPick_false<|ai @Vm.vop_alloc<|ai @Vm.vAlloc_some<|ai @Vm.vop_box<|ai @Vm.vBox_some<|ai @Vm.vop_build<|ai @Vm.vop_lit<|ai @Vm.vop_load<|ai @Vm.vop_store<|ai @Vm.vop_nilCheck<|ai @Vm.vop_bin<|ai @Vm.vop_un<|ai @Vm.vop_conv<|ai @Vm.vop_mkIface<|ai @Vm.vop_func<|ai @Vm.vFunc_some<|ai @Vm.vop_make<|ai @Vm.vop_slice<|ai @Vm.vCut_some<|ai @Vm.vop_fld<|ai @Vm.vop_field<|ai @Vm.vop_idx<|ai @Vm.vop_index<|ai @Vm.vop_assert @Vm.vop_extract
def vb2:=ai @Vm.vNth_tuple<|ai @Vm.vop_builtin<|ai @Vm.vop_value<|ai @Vm.vop_invoke<|ai @Vm.vValue_fn<|ai @Vm.vValue_yield<|ai @Vm.vValue_atom<|ai @Vm.vInvoke_iface<|ai @Vm.vMeth_self<|ai @Vm.vMeth_deref<|ai @Vm.callO_some<|ai @Vm.ofD_some<|ai @Vm.ofS_some<|ai @Vm.ofDS_some<|ai @Vm.rd_one<|ai @Vm.rdO_some<|ai @Vm.rd_agg<|ai @Vm.vLoad_iptr<|ai @Vm.vLoad_optr<|ai @Vm.vLoadO_sl<|ai @Vm.vLoadR_some<|ai @Vm.vLoad_rptr<|ai @Vm.vLoadC_cell<|ai @Vm.vIdx_imm<|ai @Vm.vIdxI_some<|ai @Vm.vIdx_own<|ai @Vm.vIdxO_sl<|ai @Vm.vFld_i<|ai @Vm.vFld_o @Vm.vFld_r
def vb3:=ai @Vm.live_iptr<|ai @Vm.aSl_sl<|ai @Vm.aliveS_eq<|ai @Vm.aCl_cell<|ai @Vm.aliveC_eq<|ai @Vm.live_optr<|ai @Vm.live_rptr<|ai @Vm.nnD_fn<|ai @Vm.nnD_func<|ai @Vm.nnD_iptr<|ai @Vm.nnD_optr<|ai @Vm.nnD_rptr<|ai @Vm.okD_atom<|ai @Vm.okD_own<|ai @Vm.okD_optr<|ai @Vm.okD_rptr<|ai @Vm.okD_imm<|ai @Vm.okD_iptr<|ai @Vm.okD_fn<|ai @Vm.okD_iface<|ai @Vm.okDs_nil<|ai @Vm.okDs_cons<|ai @Vm.cellsD_agg<|ai @Vm.cellsD_atom<|ai @Vm.cellsD_own<|ai @Vm.cellsD_optr<|ai @Vm.cellsD_rptr<|ai @Vm.cellsD_imm<|ai @Vm.cellsD_iptr @Vm.cellsD_fn
def vb4:=ai @Vm.cellsD_iface<|ai @Vm.out0_own<|ai @Vm.o0_sl<|ai @Vm.out0_atom<|ai @Vm.out0_imm<|ai @Vm.out0_iptr<|ai @Vm.out0_unk<|ai @Vm.out0_iface<|ai @Vm.out0_fn<|ai @Vm.outs_nil<|ai @Vm.outs_cons<|ai @Vm.outsO_some<|ai @Vm.vStore_eq<|ai @Vm.stP_optr<|ai @Vm.stP_rptr<|ai @Vm.stQ_some<|ai @Vm.stO_sl<|ai @Vm.stR_some<|ai @Vm.stC_cell<|ai @Vm.overD_eq<|ai @Vm.vMake_eq<|ai @Vm.vLitO_some<|ai @Vm.vLit_one<|ai @Vm.litC_some<|ai @Vm.lit1_some<|ai @Vm.litO_some<|ai @Vm.litN_out<|ai @Vm.vLit_zero<|ai @Vm.vLit_many @Vm.litN_some
def vb5:=ai @Vm.fillD_nil<|ai @Vm.fillD_cons<|ai @Vm.fillC_some<|ai @Vm.vBuildO_some<|ai @Vm.vBuild_eq<|ai @Vm.vBuild_arr<|ai @Vm.buildAr_some<|ai @Vm.buildZ_some<|ai @Vm.appRows_imm<|ai @Vm.appRows_nil<|ai @Vm.appRows_own<|ai @Vm.apR_copy<|ai @Vm.apR_move<|ai @Vm.fstO_some<|ai @Vm.sndO_some<|ai @Vm.vAppend_eq<|ai @Vm.apX_own<|ai @Vm.apO_sl<|ai @Vm.apX_nil<|ai @Vm.vBuiltinO_some<|ai @Vm.vBuiltin_len<|ai @Vm.vBuiltin_append<|ai @Vm.vBuiltin_min<|ai @Vm.vBuiltin_max<|ai @Vm.vLens_sl<|ai @Vm.vLens_str<|ai @Vm.vLen_imm<|ai @Vm.vLen_own<|ai @Vm.vLen_nil @Vm.vBin_atom
def vb6:=ai @Vm.vBin_agg<|ai @Vm.aggB_some<|ai @Vm.atomsOf_nil<|ai @Vm.atomsOf_cons<|ai @Vm.vUn_atom<|ai @Vm.un_neg<|ai @Vm.vField_agg<|ai @Vm.natI_int<|ai @Vm.arr1_some<|ai @Vm.vIndex_agg<|ai @Vm.arrR_some<|ai @Vm.vIdx_rptr<|ai @Vm.arrI_some<|ai @Vm.vIdx_iptr<|ai @Vm.vIndex_str<|ai @Vm.idxS_some<|ai @Vm.vAssert_eq<|ai @Vm.vConv_int<|ai @Vm.cvI_int<|ai @Vm.bin_or<|ai @Vm.bin_and<|ai @Vm.vConv_str<|ai @Vm.vConv_bytes<|ai @Vm.vConv_text<|ai @Vm.vSlice_str<|ai @Vm.vSlice_imm<|ai @Vm.cutI_some<|ai @Vm.vSlice_own<|ai @Vm.cutO_some @Vm.optD_none
def vb7:=ai @Vm.optD_some<|ai @Vm.resD_nil<|ai @Vm.resD_tmp<|ai @Vm.resD_cell<|ai @Vm.retP_eq<|ai @Vm.retO_some<|ai @Vm.retM_some<|ai @Vm.outR_nil<|ai @Vm.outR_cons<|ai @Vm.outRO_some<|ai @Vm.outA_agg<|ai @Vm.outAO_some<|ai @Vm.outA_atom<|ai @Vm.outA_imm<|ai @Vm.outA_own<|ai @Vm.outA_iface<|ai @Vm.outA_fn<|ai @Vm.packD_one<|ai @Vm.packD_nil<|ai @Vm.packD_two<|ai @Vm.argsTm_nil<|ai @Vm.argsTm_cons<|ai @Vm.inD_fresh<|ai @Vm.inD_atom<|ai @Vm.inD_imm<|ai @Vm.inD_tuple<|ai @Vm.inD_agg<|ai @Vm.inD_fn<|ai @Vm.inD_iface @Vm.inT_nil
def vb8:=ai @Vm.inT_cons<|ai @Vm.inL_nil<|ai @Vm.inL_cons<|ai @Vm.inA_agg<|ai @Vm.inA_fresh<|ai @Vm.inA_atom<|ai @Vm.inA_imm<|ai @Vm.inA_fn<|ai @Vm.inA_iface<|ai @Vm.in0_fresh<|ai @Vm.in0_atom<|ai @Vm.in0_imm<|ai @Vm.okI_atom<|ai @Vm.okI_fresh<|ai @Vm.okI_imm<|ai @Vm.okI_agg<|ai @Vm.okI_tuple<|ai @Vm.okI_fn<|ai @Vm.okI_iface<|ai @Vm.okA_agg<|ai @Vm.okA_atom<|ai @Vm.okA_fresh<|ai @Vm.okA_imm<|ai @Vm.okA_fn<|ai @Vm.ok0_atom<|ai @Vm.ok0_fresh<|ai @Vm.ok0_imm<|ai @Vm.ok0_fn<|ai @Vm.im1_own @Vm.imN_own
def vb9:=ai @Vm.imQ_own<|ai @Vm.imO_sl<|ai @Vm.im1_atom<|ai @Vm.im1_imm<|ai @Vm.im1_iptr<|ai @Vm.im1_agg<|ai @Vm.im1_fn<|ai @Vm.im1_iface<|ai @Vm.imN_atom<|ai @Vm.imN_imm<|ai @Vm.imN_iptr<|ai @Vm.imQ_atom<|ai @Vm.imQ_imm<|ai @Vm.im1_rptr<|ai @Vm.imN_rptr<|ai @Vm.imC_cell<|ai @Vm.im1_optr<|ai @Vm.imP_sl<|ai @Vm.imE_some<|ai @Vm.imLL_map<|ai @Vm.leT_nil<|ai @Vm.leT_cons<|ai @Vm.leS_nil<|ai @Vm.leS_cons<|ai @Vm.leQ_nil<|ai @Vm.leQ_cons<|ai @Vm.belL_nil<|ai @Vm.belL_own<|ai @Vm.belL_optr @Vm.belL_rptr
def vb10:=ai @Vm.belL_omap<|ai @Vm.bel_omap<|ai @Vm.belC_omap<|ai @Vm.belL_atom<|ai @Vm.belL_imm<|ai @Vm.belL_iptr<|ai @Vm.bel_own<|ai @Vm.bel_optr<|ai @Vm.bel_rptr<|ai @Vm.bel_atom<|ai @Vm.bel_imm<|ai @Vm.bel_iptr<|ai @Vm.bel_agg<|ai @Vm.bel_tuple<|ai @Vm.bel_fn<|ai @Vm.bel_iface<|ai @Vm.belC_nil<|ai @Vm.belC_own<|ai @Vm.belC_optr<|ai @Vm.belC_rptr<|ai @Vm.belC_atom<|ai @Vm.belC_imm<|ai @Vm.belC_iptr<|ai @Vm.belC_fn<|ai @Vm.belP_cell<|ai @Vm.belP_sl<|ai @Vm.keyOk_str<|ai @Vm.keyOk_int<|ai @Vm.nlM_nil @Vm.nlM_cons
def vb11:=ai @Vm.nlM_append<|ai @Vm.nlM_map<|ai @Vm.belO_mp<|ai @Vm.nl_unk<|ai @Vm.vop_makeMap<|ai @Vm.vop_lookup<|ai @Vm.vop_mapUpdate<|ai @Vm.vop_insert<|ai @Vm.vLookup_atom<|ai @Vm.lkO_some<|ai @Vm.lkp_ok<|ai @Vm.mapO_omap<|ai @Vm.mapO_nil<|ai @Vm.mapS_mp<|ai @Vm.vHit_some<|ai @Vm.vHit_none<|ai @Vm.vUpd_omap<|ai @Vm.upO_some<|ai @Vm.mapU_ok<|ai @Vm.vLens_map<|ai @Vm.lenM_mp<|ai @Vm.okD_omap<|ai @Vm.aMp_mp<|ai @Vm.im1_omap<|ai @Vm.imN_omap<|ai @Vm.imQ_omap<|ai @Vm.nf_omap<|ai @Vm.nl_omap<|ai @Vm.cellsD_omap @Vm.belP_ghost
def vb12:=ai @Vm.belP_dead<|ai @Vm.belO_cell<|ai @Vm.belO_sl<|ai @Vm.belO_dead<|ai @Vm.nf_atom<|ai @Vm.nf_imm<|ai @Vm.nf_iptr<|ai @Vm.nf_own<|ai @Vm.nf_optr<|ai @Vm.nf_rptr<|ai @Vm.nf_unk<|ai @Vm.nf_fresh<|ai @Vm.nf_agg<|ai @Vm.nf_tuple<|ai @Vm.nf_iface<|ai @Vm.nf_fn<|ai @Vm.nfL_nil<|ai @Vm.nfL_cons<|ai @Vm.nfR_nil<|ai @Vm.nfR_cons<|ai @Vm.nl_atom<|ai @Vm.nl_imm<|ai @Vm.nl_iptr<|ai @Vm.nl_own<|ai @Vm.nl_optr<|ai @Vm.nl_rptr<|ai @Vm.nl_agg<|ai @Vm.nl_iface<|ai @Vm.nl_fn @Vm.nl_fresh
def vb13:=ai @Vm.nlR_nil<|ai @Vm.nlR_cons<|ai @Vm.nlR_append<|ai @Vm.nlR_map<|ai @Vm.nlR_rep<|ai @Vm.nlR_set<|ai @Vm.nlR_take<|ai @Vm.nlR_drop<|ai @Vm.nlL_nil<|ai @Vm.nlL_cons<|ai @Vm.pr_atom<|ai @Vm.pr_fresh<|ai @Vm.pr_imm<|ai @Vm.pr_agg<|ai @Vm.pr_tuple<|ai @Vm.pr_iface<|ai @Vm.pr_fn<|ai @Vm.prL_nil<|ai @Vm.prL_cons<|ai @Vm.prLL_nil<|ai @Vm.prLL_cons<|ai @Vm.imL_nil<|ai @Vm.imL_cons<|ai @Vm.imLL_nil<|ai @Vm.imLL_cons<|ai @Vm.im_atom<|ai @Vm.im_imm<|ai @Vm.im_fresh<|ai @Vm.szO_eq @Vm.apS_eq
def vb14:=ai @Vm.apB_eq<|ai @Vm.leTr_nil<|ai @Vm.leTr_cons<|ai @Vm.leSr_nil<|ai @Vm.leSr_cons<|ai @Vm.ren_own<|ai @Vm.ren_optr<|ai @Vm.ren_rptr<|ai @Vm.ren_omap<|ai @Vm.ren0_omap<|ai @Vm.ren_atom<|ai @Vm.ren_imm<|ai @Vm.ren_iptr<|ai @Vm.ren_agg<|ai @Vm.ren_fn<|ai @Vm.ren_iface<|ai @Vm.ren0_own<|ai @Vm.ren0_rptr<|ai @Vm.ren0_atom<|ai @Vm.ren0_imm<|ai @Vm.renO_cell<|ai @Vm.renO_mp<|ai @Vm.renO_sl<|ai @Vm.vD_nil<|ai @Vm.vD_cons<|ai @Vm.vDO_some<|ai @Vm.vDW_true<|ai @Vm.vDW_false<|ai @Vm.vDS_val @Vm.vDS_call
def vb15:=ai @Vm.vDS_round<|ai @Vm.vDN_eq<|ai @Vm.nfR_map<|ai @Vm.prLL_map<|ai @Vm.vO_nil<|ai @Vm.vO_cons<|ai @Vm.vW_true<|ai @Vm.vW_false<|ai @Vm.vS_val<|ai @Vm.vS_call<|ai @Vm.vS_round<|ai @Vm.vN_eq<|ai @Vm.su_sq<|ai @Vm.su_sq_ret<|ai @Vm.su_sq_exit<|ai @Vm.su_bk<|ai @Vm.su_bk_ret<|ai @Vm.su_bk_exit<|ai @Vm.su_lp<|ai @Vm.su_lp_ret<|ai @Vm.su_lp_exit<|ai @Vm.su_sc<|ai @Vm.su_sc_ret<|ai @Vm.su_sc_exit<|ai @Vm.sk_skip<|ai @Vm.sk_label<|ai @Vm.sk_ret<|ai @Vm.sk_exit<|ai @Vm.sk_seq @Vm.sk_block
def vb16:=ai @Vm.sk_scope<|ai @Vm.sk_cond<|ai @Vm.sb_true<|ai @Vm.sb_false<|ai @bin_add<|ai @bin_sub<|ai @bin_mul<|ai @bin_quo<|ai @bin_rem<|ai @bin_eql<|ai @bin_neq<|ai @bin_lss<|ai @bin_leq<|ai @bin_gtr<|ai @bin_geq<|ai @bin_eql_str<|ai @bin_neq_str<|ai @bin_eql_bool<|ai @bin_neq_bool<|ai @bin_eql_agg<|ai @bin_neq_agg<|ai @un_not<|ai @not_dec<|ai @i64_wrap<|ai @V_one_int<|ai @V_one_bool<|ai @V_one_str<|ai @V_one_func<|ai @V_one_nilSlice @V_one_nilFunc
def vb17:=ai @V_one_nilIface<|ai @V_one_nilMap<|ai @V_one_nilPtr<|ai @V_one_ptr<|ai @V_one_slice<|ai @cond_true.{1}<|ai @cond_false.{1}<|ai @Option.map_some.{0,0}<|ai @Option.bind_some.{0,0}<|ai @Option.map_none.{0,0}<|ai @Option.bind_none.{0,0}<|ai @Option.getD_some.{0}<|ai @Option.elim_some.{0,1}<|ai @Option.isSome_some.{0}<|ai @List.getElem?_toArray.{0}<|ai @List.getElem?_cons_zero.{0}<|ai @List.getElem?_cons_succ.{0}<|ai @List.getElem?_map.{0,0}<|ai @List.getD_cons_zero.{0}<|ai @List.getD_cons_succ.{0}<|ai @List.append_nil.{0}<|ai @List.nil_append.{0}<|ai @List.cons_append.{0}<|ai @List.set_cons_zero.{0}<|ai @List.set_cons_succ.{0}<|ai @List.length_cons.{0}<|ai @List.length_nil.{0}<|ai @List.length_map.{0,0}<|ai @List.length_append.{0} @List.length_set.{0}
def vb18:=ai @List.length_replicate.{0}<|ai @List.map_cons.{0,0}<|ai @List.map_nil.{0,0}<|ai @List.drop_succ_cons.{0}<|ai @List.drop_zero.{0}<|ai @List.take_succ_cons.{0}<|ai @List.take_zero.{0}<|ai @List.drop_nil.{0}<|ai @List.take_nil.{0}<|ai @List.all_cons.{0}<|ai @List.all_nil.{0}<|ai @List.flatten_cons.{0}<|ai @List.flatten_nil.{0}<|ai @Nat.zero_add<|ai @Nat.add_zero<|ai @false_and<|ai @and_false<|ai @and_true<|ai @true_and<|ai @eq_self.{1}<|ai @not_true_eq_false<|ai @not_false_eq_true<|ai @decide_true<|ai @decide_false<|ai @Bool.not_true<|ai @Bool.not_false<|ai @Bool.true_beq<|ai @Bool.false_beq<|ai @beq_self_eq_true.{0} @Bool.true_and
def vb19:=ai @Bool.false_and<|ai @Bool.and_true<|ai @Bool.and_false<|ai @Bool.true_or<|ai @Bool.false_or<|ai @Bool.or_true<|ai @Bool.or_false<|ai @Bool.and_self<|ai @Nat.le_refl<|ai @Int.toNat_natCast<|ai @Nat.lt_irrefl<|ai @Int.natCast_add<|ai @Int.cast_ofNat_Int @Int.natCast_mul
def vd:=ai @Vm.aSl_sl<|ai @Vm.aCl_cell<|ai @Vm.okD_atom<|ai @Vm.okD_own<|ai @Vm.okD_optr<|ai @Vm.okD_rptr<|ai @Vm.okD_imm<|ai @Vm.okD_iptr<|ai @Vm.okD_fn<|ai @Vm.okD_iface<|ai @Vm.okDs_nil<|ai @Vm.okDs_cons<|ai @Vm.natI_int<|ai @Vm.optD_none<|ai @Vm.optD_some<|ai @Vm.okI_atom<|ai @Vm.okI_fresh<|ai @Vm.okI_imm<|ai @Vm.okI_agg<|ai @Vm.okI_tuple<|ai @Vm.okI_fn<|ai @Vm.okI_iface<|ai @Vm.okA_agg<|ai @Vm.okA_atom<|ai @Vm.okA_fresh<|ai @Vm.okA_imm<|ai @Vm.okA_fn<|ai @Vm.ok0_atom<|ai @Vm.ok0_fresh<|ai @Vm.ok0_imm<|ai @Vm.ok0_fn<|ai @Vm.imLL_map<|ai @Vm.belL_nil<|ai @Vm.belL_own<|ai @Vm.belL_optr<|ai @Vm.belL_rptr<|ai @Vm.belL_omap<|ai @Vm.bel_omap<|ai @Vm.belC_omap<|ai @Vm.belL_atom<|ai @Vm.belL_imm<|ai @Vm.belL_iptr<|ai @Vm.bel_own<|ai @Vm.bel_optr<|ai @Vm.bel_rptr<|ai @Vm.bel_atom<|ai @Vm.bel_imm<|ai @Vm.bel_iptr<|ai @Vm.bel_agg<|ai @Vm.bel_tuple<|ai @Vm.bel_fn<|ai @Vm.bel_iface<|ai @Vm.belC_nil<|ai @Vm.belC_own<|ai @Vm.belC_optr<|ai @Vm.belC_rptr<|ai @Vm.belC_atom<|ai @Vm.belC_imm<|ai @Vm.belC_iptr<|ai @Vm.belC_fn<|ai @Vm.belP_cell<|ai @Vm.belP_sl<|ai @Vm.nlM_nil<|ai @Vm.nlM_cons<|ai @Vm.nlM_append<|ai @Vm.nlM_map<|ai @Vm.belO_mp<|ai @Vm.nl_unk<|ai @Vm.okD_omap<|ai @Vm.nf_omap<|ai @Vm.nl_omap<|ai @Vm.belP_ghost<|ai @Vm.belP_dead<|ai @Vm.belO_cell<|ai @Vm.belO_sl<|ai @Vm.belO_dead<|ai @Vm.nf_atom<|ai @Vm.nf_imm<|ai @Vm.nf_iptr<|ai @Vm.nf_own<|ai @Vm.nf_optr<|ai @Vm.nf_rptr<|ai @Vm.nf_unk<|ai @Vm.nf_fresh<|ai @Vm.nf_agg<|ai @Vm.nf_tuple<|ai @Vm.nf_iface<|ai @Vm.nf_fn<|ai @Vm.nfL_nil<|ai @Vm.nfL_cons<|ai @Vm.nfR_nil<|ai @Vm.nfR_cons<|ai @Vm.nl_atom<|ai @Vm.nl_imm<|ai @Vm.nl_iptr<|ai @Vm.nl_own<|ai @Vm.nl_optr<|ai @Vm.nl_rptr<|ai @Vm.nl_agg<|ai @Vm.nl_iface<|ai @Vm.nl_fn<|ai @Vm.nl_fresh<|ai @Vm.nlR_nil<|ai @Vm.nlR_cons<|ai @Vm.nlR_append<|ai @Vm.nlR_map<|ai @Vm.nlR_rep<|ai @Vm.nlR_set<|ai @Vm.nlR_take<|ai @Vm.nlR_drop<|ai @Vm.nlL_nil<|ai @Vm.nlL_cons<|ai @Vm.pr_atom<|ai @Vm.pr_fresh<|ai @Vm.pr_imm<|ai @Vm.pr_agg<|ai @Vm.pr_tuple<|ai @Vm.pr_iface<|ai @Vm.pr_fn<|ai @Vm.prL_nil<|ai @Vm.prL_cons<|ai @Vm.prLL_nil<|ai @Vm.prLL_cons<|ai @Vm.imL_nil<|ai @Vm.imL_cons<|ai @Vm.imLL_nil<|ai @Vm.imLL_cons<|ai @Vm.im_atom<|ai @Vm.im_imm<|ai @Vm.im_fresh<|ai @Vm.nfR_map<|ai @Vm.prLL_map<|ai @V_one_int<|ai @V_one_bool<|ai @V_one_str<|ai @V_one_func<|ai @V_one_nilSlice<|ai @V_one_nilFunc<|ai @cond_true.{1}<|ai @cond_false.{1}<|ai @Option.map_some.{0,0}<|ai @Option.bind_some.{0,0}<|ai @Option.map_none.{0,0}<|ai @Option.bind_none.{0,0}<|ai @Option.getD_some.{0}<|ai @Option.elim_some.{0,1}<|ai @Option.isSome_some.{0}<|ai @List.getElem?_toArray.{0}<|ai @List.getElem?_cons_zero.{0}<|ai @List.getElem?_cons_succ.{0}<|ai @List.getElem?_map.{0,0}<|ai @List.getD_cons_zero.{0}<|ai @List.getD_cons_succ.{0}<|ai @List.append_nil.{0}<|ai @List.nil_append.{0}<|ai @List.cons_append.{0}<|ai @List.set_cons_zero.{0}<|ai @List.set_cons_succ.{0}<|ai @List.length_cons.{0}<|ai @List.length_nil.{0}<|ai @List.length_map.{0,0}<|ai @List.length_append.{0}<|ai @List.length_set.{0}<|ai @List.length_replicate.{0}<|ai @List.map_cons.{0,0}<|ai @List.map_nil.{0,0}<|ai @List.drop_succ_cons.{0}<|ai @List.drop_zero.{0}<|ai @List.take_succ_cons.{0}<|ai @List.take_zero.{0}<|ai @List.drop_nil.{0}<|ai @List.take_nil.{0}<|ai @List.all_cons.{0}<|ai @List.all_nil.{0}<|ai @List.flatten_cons.{0}<|ai @List.flatten_nil.{0}<|ai @Nat.zero_add<|ai @Nat.add_zero<|ai @false_and<|ai @and_false<|ai @and_true<|ai @true_and<|ai @eq_self.{1}<|ai @not_true_eq_false<|ai @not_false_eq_true<|ai @decide_true<|ai @decide_false<|ai @Bool.not_true<|ai @Bool.not_false<|ai @Bool.true_beq<|ai @Bool.false_beq<|ai @beq_self_eq_true.{0}<|ai @Bool.true_and<|ai @Bool.false_and<|ai @Bool.and_true<|ai @Bool.and_false<|ai @Bool.true_or<|ai @Bool.false_or<|ai @Bool.or_true<|ai @Bool.or_false<|ai @Bool.and_self<|ai @Nat.le_refl<|ai @Int.toNat_natCast<|ai @Nat.lt_irrefl<|ai @Int.natCast_add<|ai @Int.cast_ofNat_Int @Int.natCast_mul
def va:=ai vb0<|ai vb1<|ai vb2<|ai vb3<|ai vb4<|ai vb5<|ai vb6<|ai vb7<|ai vb8<|ai vb9<|ai vb10<|ai vb11<|ai vb12<|ai vb13<|ai vb14<|ai vb15<|ai vb16<|ai vb17<|ai vb18 vb19
end Go.Am
