import Derived.Test.YtphjohoipocpnaaGreatAmA
import Derived.Test.YtphjohoipocpnaaGreatAmE
import Derived.MapKept
set_option linter.unusedVariables false
/- The small machine once more, each operation and each piece of code a small definition of its own: cheap for the kernel; it is the same machine. -/
namespace Go.Am
noncomputable section
def xMove (T:Tab) (a:A) (H:Heap) (x:Operand):OR:=op1 a x fun v=>.val v H
def xPick (T:Tab) (a:A) (H:Heap) (c:Operand) (x:Operand) (y:Operand):OR:=op1 a c fun
    | .bool true=>op1 a x fun v=>.val v H
    | .bool false=>op1 a y fun v=>.val v H
    | _=>.stuck
def xAlloc (T:Tab) (a:A) (H:Heap) (t:TypeId):OR:=match T.zero t with
    | some z=>.val (.ptr H.n 0) (H.push (.cells false z))
    | none=>.stuck
def xBox (T:Tab) (a:A) (H:Heap) (x:Operand):OR:=op1 a x fun v=>.val (.ptr H.n 0) (H.push (.cells false v.cells))
def xBuild (T:Tab) (a:A) (H:Heap) (t:TypeId) (ps:Array (Nat×Operand)):OR:=match T.zero t,evalParts a ps.toList,T.und t with
    | some z,some ps,some (.struct fs)=>cond (sizesOk T fs.toList) (.ofV H ((fill (placeOf T fs) z ps).map .agg)) .stuck
    | some z,some ps,some (.array _ e)=>match T.size e with
      | some (s,_)=>.ofV H ((fill (fun i=>some (i * s,s)) z ps).map .agg)
      | none=>.stuck
    | _,_,_=>.stuck
def xBuildSlice (T:Tab) (a:A) (H:Heap) (t:TypeId) (n:Nat) (ps:Array (Nat×Operand)):OR:=match T.und t with
    | some (.slice e)=>match T.size e,T.zero e,evalParts a ps.toList with
      | some (s,_),some z,some ps=>cond (Nat.ble (n * s) 16777216 && Nat.beq z.length s) (match fill (fun i=>some (i * s,s)) (zeros z n) ps with
        | some cs=>.val (.slice H.n 0 n s (some n)) (H.push (.cells false cs))
        | none=>.stuck) .stuck
      | _,_,_=>.stuck
    | _=>.stuck
def xLoad (T:Tab) (a:A) (H:Heap) (t:TypeId) (x:Operand):OR:=op1 a x fun
    | .ptr l o=>.ofV H (loadVar T H t l o)
    | _=>.stuck
def xStore (T:Tab) (a:A) (H:Heap) (t:TypeId) (x:Operand) (y:Operand):OR:=op1 a x fun
    | .ptr l o=>op1 a y fun v=>.ofH (storeVar T H t l o v)
    | _=>.stuck
def xNilCheck (T:Tab) (a:A) (H:Heap) (x:Operand):OR:=op1 a x fun
    | .nilPtr | .nilIface | .nilFunc=>.stuck
    | .func (.func f) u v=>.val (.func (.func f) u v) H
    | .func (.yield f) u v=>.val (.func (.yield f) u v) H
    | .func _ _ _=>.stuck
    | v=>.val v H
def xBinOp (T:Tab) (a:A) (H:Heap) (op:BinOp) (t:TypeId) (x:Operand) (y:Operand):OR:=op1 a x fun u=>op1 a y fun v=>.ofV H (binOp T op t (isConst x || isConst y) u v)
def xUnOp (T:Tab) (a:A) (H:Heap) (op:UnOp) (x:Operand):OR:=op1 a x fun v=>.ofV H (unOp op v)
def xConvert (T:Tab) (a:A) (H:Heap) (s:TypeId) (d:TypeId) (x:Operand):OR:=op1 a x fun v=>.ofVH (convert T H s d v)
def xMakeInterface (T:Tab) (a:A) (H:Heap) (t:TypeId) (x:Operand):OR:=op1 a x fun v=>match T.und t with
    | some (.interface _) | none=>.stuck
    | some _=>.val (.iface t v) H
def xMakeFunc (T:Tab) (a:A) (H:Heap) (fn:Fn) (first:Array Operand) (captured:Array Operand):OR:=match fn,evals a first.toList,evals a captured.toList with
    | .func f,some u,some v=>.val (.func (.func f) u v) H
    | _,_,_=>.stuck
def xMakeMap (T:Tab) (a:A) (H:Heap) (t:TypeId) (x:Operand):OR:=op1 a x fun v=>match T.und t,v with
    | some (.map _ _),.int _ _=>.val (.map H.n) (H.push (.map []))
    | _,_=>.stuck
def xMakeSlice (T:Tab) (a:A) (H:Heap) (t:TypeId) (x:Operand) (y:Operand):OR:=op1 a x fun u=>op1 a y fun v=>match T.und t,natOf u,natOf v with
    | some (.slice e),some n,some c=>match T.size e,T.zero e with
      | some (s,bytes),some z=>cond (Nat.ble n c && Nat.blt (c * bytes) 17592186044416 && Nat.blt c 17592186044416 && Nat.beq z.length s && Nat.blt 0 s)
        (.val (.slice H.n 0 n s (some c)) (H.push (.cells false (zeros z c)))) .stuck
      | _,_=>.stuck
    | _,_,_=>.stuck
def xSlice (T:Tab) (a:A) (H:Heap) (t:TypeId) (x:Operand) (lo:Option Operand) (hi:Option Operand) (mx:Option Operand):OR:=op1 a x fun v=>match evalOpt a lo,evalOpt a hi,evalOpt a mx with
    | some lo,some hi,some mx=>.ofV H (sliceOp T H t v lo hi mx)
    | _,_,_=>.stuck
def xFieldAddr (T:Tab) (a:A) (H:Heap) (t:TypeId) (x:Operand) (i:Nat):OR:=op1 a x fun
    | .ptr l o=>match fieldsOf T t with
      | some fs=>match fs[i]? with
        | some f=>match T.size f.type with
          | some (n,_)=>cond (Nat.beq n 0) .stuck (.val (.ptr l (o+f.offset)) H)
          | none=>.stuck
        | none=>.stuck
      | none=>.stuck
    | _=>.stuck
def xField (T:Tab) (a:A) (H:Heap) (t:TypeId) (x:Operand) (i:Nat):OR:=op1 a x fun
    | .agg cs=>match fieldsOf T t with
      | some fs=>match fs[i]? with
        | some f=>.ofV H (part T f.type cs f.offset)
        | none=>.stuck
      | none=>.stuck
    | _=>.stuck
def xIndexAddr (T:Tab) (a:A) (H:Heap) (t:TypeId) (x:Operand) (i:Operand):OR:=op1 a x fun u=>op1 a i fun v=>match T.und t,u,natOf v with
    | some (.slice e),.slice l o n s _,some j=>match T.size e with
      | some (sz,_)=>cond (Nat.beq sz s && Nat.blt j n) (.val (.ptr l (o+j * s)) H) .stuck
      | none=>.stuck
    | some (.array n e),.ptr l o,some j=>match T.size e with
      | some (s,_)=>cond (Nat.blt j n) (.val (.ptr l (o+j * s)) H) .stuck
      | none=>.stuck
    | _,_,_=>.stuck
def xIndex (T:Tab) (a:A) (H:Heap) (t:TypeId) (x:Operand) (i:Operand):OR:=op1 a x fun u=>op1 a i fun v=>match T.und t,u,natOf v with
    | some .string,.str s,some j=>match s[j]? with
      | some b=>.val (.int .u8 b.toNat) H
      | none=>.stuck
    | some (.array n e),.agg cs,some j=>match T.size e with
      | some (s,_)=>cond (Nat.blt j n) (.ofV H (part T e cs (j * s))) .stuck
      | none=>.stuck
    | _,_,_=>.stuck
def xLookup (T:Tab) (a:A) (H:Heap) (t:TypeId) (x:Operand) (i:Operand) (ok:Bool):OR:=op1 a x fun u=>op1 a i fun v=>.ofV H (lookup T H t u v ok)
def xMapUpdate (T:Tab) (a:A) (H:Heap) (t:TypeId) (m:Operand) (k:Operand) (x:Operand):OR:=op1 a m fun m=>op1 a k fun k=>op1 a x fun v=>.ofH (mapUpdate T H t m k v)
def xTypeAssert (T:Tab) (a:A) (H:Heap) (x:Operand) (u:TypeId) (ok:Bool):OR:=op1 a x fun v=>match T.und u,v with
    | some (.interface _),_ | none,_=>.stuck
    | some _,.iface t w=>cond (Nat.beq t u) (.val (cond ok (.tuple [w,.bool true]) w) H)
      (cond ok (match T.zeroV u with
       | some z=>.val (.tuple [z,.bool false]) H
       | none=>.stuck) .stuck)
    | some _,.nilIface=>cond ok (match T.zeroV u with
       | some z=>.val (.tuple [z,.bool false]) H
       | none=>.stuck) .stuck
    | _,_=>.stuck
def xExtract (T:Tab) (a:A) (H:Heap) (x:Operand) (i:Nat):OR:=op1 a x fun
    | .tuple vs=>.ofV H vs[i]?
    | _=>.stuck
def xCall (T:Tab) (a:A) (H:Heap) (c:Call):OR:=callOp T a H c
def xDefer (T:Tab) (a:A) (H:Heap) (c:Call):OR:=match c.callee,evals a c.args.toList with
    | .value g,some args=>match a.eval g with
      | some (.func (.func f) first captured)=>.defer (.fn f (first++args++captured))
      | _=>.stuck
    | _,_=>.stuck
def xPanic (T:Tab) (a:A) (H:Heap) (x:Operand):OR:=op1 a x fun
    | .iface t v=>.panic (.iface t v)
    | _=>.stuck
def execOpF:Op→Tab→A→Heap→OR
 | .move x=>fun T a H=>xMove T a H x
 | .assign x=>fun T a H=>xMove T a H x
 | .pick c x y=>fun T a H=>xPick T a H c x y
 | .alloc t=>fun T a H=>xAlloc T a H t
 | .box _ x=>fun T a H=>xBox T a H x
 | .build t ps=>fun T a H=>xBuild T a H t ps
 | .buildSlice t n ps=>fun T a H=>xBuildSlice T a H t n ps
 | .load t x=>fun T a H=>xLoad T a H t x
 | .store t x y=>fun T a H=>xStore T a H t x y
 | .nilCheck x=>fun T a H=>xNilCheck T a H x
 | .binOp op t x y _=>fun T a H=>xBinOp T a H op t x y
 | .unOp op _ x=>fun T a H=>xUnOp T a H op x
 | .convert s d x=>fun T a H=>xConvert T a H s d x
 | .makeInterface t x=>fun T a H=>xMakeInterface T a H t x
 | .makeFunc fn first captured=>fun T a H=>xMakeFunc T a H fn first captured
 | .makeMap _ none=>fun _ _ H=>.val (.map H.n) (H.push (.map []))
 | .makeMap t (some x)=>fun T a H=>xMakeMap T a H t x
 | .makeSlice t x y=>fun T a H=>xMakeSlice T a H t x y
 | .slice t x lo hi mx=>fun T a H=>xSlice T a H t x lo hi mx
 | .fieldAddr t x i=>fun T a H=>xFieldAddr T a H t x i
 | .field t x i=>fun T a H=>xField T a H t x i
 | .indexAddr t x i=>fun T a H=>xIndexAddr T a H t x i
 | .index t x i=>fun T a H=>xIndex T a H t x i
 | .lookup t x i ok=>fun T a H=>xLookup T a H t x i ok
 | .mapUpdate t m k x=>fun T a H=>xMapUpdate T a H t m k x
 | .insert t m k x=>fun T a H=>xMapUpdate T a H t m k x
 | .typeAssert x _ u ok=>fun T a H=>xTypeAssert T a H x u ok
 | .extract x i=>fun T a H=>xExtract T a H x i
 | .call c=>fun T a H=>xCall T a H c
 | .defer c=>fun T a H=>xDefer T a H c
 | .panic x=>fun T a H=>xPanic T a H x
 | _=>fun _ _ _=>.stuck
def runOpsF (T:Tab) (ev:Ev) (fuel:Nat) (rho:Option Nat) (ops:Array Oper):List Nat→A→Heap→Option (Ex×A×Heap)
 | [],a,H=>some (.normal,a,H)
 | i::rest,a,H=>match ops[i]? with
   | none=>none
   | some o=>cond (wanted ops a o) (
     match execOpF o.op T a H with
     | .val v H'=>runOpsF T ev fuel rho ops rest (a.put o.dst v) H'
     | .call f args=>match calls T ev fuel f args H with
       | .returned v H'=>runOpsF T ev fuel rho ops rest (a.put o.dst v) H'
       | .panicked v H'=>some (.panic v,a,H')
       | .stuck=>none
     | .round l args=>match round ev l args H with
       | .returned v H'=>runOpsF T ev fuel rho ops rest (a.put o.dst v) H'
       | _=>none
     | .defer d=>cond rho.isNone (runOpsF T ev fuel rho ops rest ((A.mk a.tmps (d::a.defers)).put o.dst undefV) H) none
     | .panic v=>some (.panic v,a,H)
     | .recover=>none
     | .stuck=>none) (runOpsF T ev fuel rho ops rest (a.put o.dst undefV) H)
def quietAtF (T:Tab) (a:A) (k:Nat) (o:Op):Option (V×Option O):=
 match execOpF o T a ⟨k,.leaf⟩ with
 | .val v H1=>cond (Nat.beq H1.n k) (some (v,none)) (match H1.get k with
   | some ob=>some (v,some ob)
   | none=>none)
 | _=>none
def stoodF (T:Tab) (a:A) (o:Oper) (v:V) (mask:Nat):List (Nat×Heap)→Bool
 | []=>true
 | (h,H)::rest=>(mask.testBit h || (match execOpF o.op T a H with
   | .val u _=>sameV u v
   | _=>false)) && stoodF T a o v mask rest
def runDrawF (T:Tab) (ev:Ev) (fuel:Nat) (ops:Array Oper) (bef:Array Nat) (k:Nat):List Nat→List (Nat×Heap)→A→Heap→Option (A×Heap)
 | [],_,a,H=>some (a,H)
 | i::rest,snaps,a,H=>match ops[i]? with
   | none=>none
   | some o=>cond (wanted ops a o) (
     cond (quiet o.op) (match quietAtF T a (k+i) o.op with
      | some (v,none)=>runDrawF T ev fuel ops bef k rest snaps (a.put o.dst v) H
      | some (v,some ob)=>runDrawF T ev fuel ops bef k rest snaps (a.put o.dst v) (H.put (k+i) ob)
      | none=>none)
     (cond (reads o.op) (match execOpF o.op T a H with
      | .val v H'=>cond (stoodF T a o v (bef.getD i 0) snaps) (runDrawF T ev fuel ops bef k rest snaps (a.put o.dst v) H') none
      | _=>none)
     (match execOpF o.op T a H with
      | .val v H'=>runDrawF T ev fuel ops bef k rest ((i,H)::snaps) (a.put o.dst v) H'
      | .call f args=>match calls T ev fuel f args H with
        | .returned v H'=>runDrawF T ev fuel ops bef k rest ((i,H)::snaps) (a.put o.dst v) H'
        | _=>none
      | .round l args=>match round ev l args H with
        | .returned v H'=>runDrawF T ev fuel ops bef k rest ((i,H)::snaps) (a.put o.dst v) H'
        | _=>none
      | _=>none))) (runDrawF T ev fuel ops bef k rest snaps (a.put o.dst undefV) H)
def sSeq (T:Tab) (ev:Ev) (fuel:Nat) (rho:Option Nat) (x:Code) (y:Code) (a:A) (H:Heap):Option (Ex×A×Heap):=match ev rho x a H with
    | some (.normal,a',H')=>ev rho y a' H'
    | r=>r
def sCond (T:Tab) (ev:Ev) (fuel:Nat) (rho:Option Nat) (x:Operand) (y:Code) (z:Code) (a:A) (H:Heap):Option (Ex×A×Heap):=match a.eval x with
    | some (.bool true)=>ev rho y a H
    | some (.bool false)=>ev rho z a H
    | _=>none
def sBlock (T:Tab) (ev:Ev) (fuel:Nat) (rho:Option Nat) (id:Nat) (b:Code) (a:A) (H:Heap):Option (Ex×A×Heap):=match ev rho b a H with
    | some (.exit j,a',H')=>cond (Nat.beq j id) (some (.normal,a',H')) (some (.exit j,a',H'))
    | r=>r
def sLoop (T:Tab) (ev:Ev) (fuel:Nat) (rho:Option Nat) (b:Code) (a:A) (H:Heap):Option (Ex×A×Heap):=match ev rho b a H with
    | some (.normal,a',H')=>ev rho (.loop b) a' H'
    | r=>r
def sScope (T:Tab) (ev:Ev) (fuel:Nat) (rho:Option Nat) (b:Code) (a:A) (H:Heap):Option (Ex×A×Heap):=match ev rho b a H with
    | some (.goto _,_,_)=>none
    | r=>r
def sRegion (T:Tab) (ev:Ev) (fuel:Nat) (rho:Option Nat) (ops:Array Oper) (a:A) (H:Heap):Option (Ex×A×Heap):=runOpsF T ev fuel rho ops (List.range ops.size) a H
def sDraw (T:Tab) (ev:Ev) (fuel:Nat) (rho:Option Nat) (ops:Array Oper) (a:A) (H:Heap):Option (Ex×A×Heap):=cond (drawOk ops && H.clean ops.size) (match runDrawF T ev fuel ops (Region.before ops) H.n (sched ops (Region.before ops)) [] a (H.keep ops.size) with
    | some (a',H')=>some (.normal,a',H')
    | none=>none) none
def sRangeFunc (T:Tab) (ev:Ev) (fuel:Nat) (rho:Option Nat) (f:Operand) (params:Array Tmp) (assign:Code) (body:Code) (a:A) (H:Heap):Option (Ex×A×Heap):=match a.eval f with
    | none=>none
    | some g =>
      match (match rho with
       | none=>some (H.n,[D.collected H.n],H.push (.deferred (some [])))
       | some l=>match H.get l with
         | some (.loop _ _ _ _ _ _ _ ds)=>some (ds,[],H)
         | _=>none:Option (Nat×List D×Heap)) with
      | none=>none
      | some (ds,mark,H1) =>
        match callee g [.func (.yield H1.n) [] []] with
        | .call k args=>cond (T.prim k).isSome none (match calls T ev fuel k args (H1.push (.loop .ready none 0 a.tmps params.toList assign body ds)) with
          | .returned _ H2=>match H2.get H1.n with
            | some (.loop st p fn tmps ps as bo ds') =>
              cond (match st with | .busy=>true | _=>false) none (
               let H3:=H2.put H1.n (.loop .exhausted p fn tmps ps as bo ds')
               let a':A:=⟨a.tmps,mark++a.defers⟩
               match p with
               | none=>some (.normal,a',H3)
               | some .ret=>some (.ret,a',H3)
               | some (.exit id)=>some (.exit id,a',H3)
               | some _=>none)
            | _=>none
          | _=>none)
        | _=>none
def stepF:Code→Tab→Ev→Nat→Option Nat→A→Heap→Option (Ex×A×Heap)
 | .skip=>fun _ _ _ _ a H=>some (.normal,a,H)
 | .label _=>fun _ _ _ _ a H=>some (.normal,a,H)
 | .ret=>fun _ _ _ _ a H=>some (.ret,a,H)
 | .exit id=>fun _ _ _ _ a H=>some (.exit id,a,H)
 | .seq x y=>fun T ev fuel rho a H=>sSeq T ev fuel rho x y a H
 | .cond x y z=>fun T ev fuel rho a H=>sCond T ev fuel rho x y z a H
 | .block id b=>fun T ev fuel rho a H=>sBlock T ev fuel rho id b a H
 | .loop b=>fun T ev fuel rho a H=>sLoop T ev fuel rho b a H
 | .scope b=>fun T ev fuel rho a H=>sScope T ev fuel rho b a H
 | .region _ ops false=>fun T ev fuel rho a H=>sRegion T ev fuel rho ops a H
 | .region _ ops true=>fun T ev fuel rho a H=>sDraw T ev fuel rho ops a H
 | .rangeFunc f params assign body=>fun T ev fuel rho a H=>sRangeFunc T ev fuel rho f params assign body a H
 | _=>fun _ _ _ _ _ _=>none
def evF (T:Tab):Nat→Ev
 | 0=>fun _ _ _ _=>none
 | n+1=>fun rho c a H=>stepF c T (evF T n) n rho a H
def runF (T:Tab) (n:Nat) (f:FuncId) (args:List V) (H:Heap):CR:=calls T (evF T n) n f args H
theorem execOpF_eq (T:Tab) (a:A) (H:Heap) (o:Op):execOpF o T a H=execOp T a H o:=by
 cases o
 case makeMap t r=>cases r <;> rfl
 all_goals rfl
theorem runOpsF_eq (T:Tab) (ev:Ev) (fuel:Nat) (rho:Option Nat) (ops:Array Oper):∀ (idx:List Nat) (a:A) (H:Heap),runOpsF T ev fuel rho ops idx a H=runOps T ev fuel rho ops idx a H
 | [],_,_=>rfl
 | i::rest,a,H=>by
   unfold runOpsF runOps;simp only [execOpF_eq,runOpsF_eq T ev fuel rho ops rest]
   rfl
theorem quietAtF_eq (T:Tab) (a:A) (k:Nat) (o:Op):quietAtF T a k o=quietAt T a k o:=by
 unfold quietAtF quietAt;simp only [execOpF_eq]
 rfl
theorem stoodF_eq (T:Tab) (a:A) (o:Oper) (v:V) (mask:Nat):∀ (sn:List (Nat×Heap)),stoodF T a o v mask sn=stood T a o v mask sn
 | []=>rfl
 | (h,H)::rest=>by
   unfold stoodF stood;simp only [execOpF_eq,stoodF_eq T a o v mask rest]
   rfl
theorem runDrawF_eq (T:Tab) (ev:Ev) (fuel:Nat) (ops:Array Oper) (bef:Array Nat) (k:Nat):∀ (idx:List Nat) (sn:List (Nat×Heap)) (a:A) (H:Heap),runDrawF T ev fuel ops bef k idx sn a H=runDraw T ev fuel ops bef k idx sn a H
 | [],_,_,_=>rfl
 | i::rest,sn,a,H=>by
   unfold runDrawF runDraw;simp only [execOpF_eq,quietAtF_eq,stoodF_eq,runDrawF_eq T ev fuel ops bef k rest]
   rfl
theorem stepF_eq (T:Tab) (ev:Ev) (fuel:Nat) (rho:Option Nat) (c:Code) (a:A) (H:Heap):stepF c T ev fuel rho a H=step T ev fuel rho c a H:=by
 cases c
 case region id ops draw =>
  cases draw
  ·exact runOpsF_eq T ev fuel rho ops _ a H
  ·show sDraw T ev fuel rho ops a H=_;unfold sDraw step;simp only [runDrawF_eq]
   rfl
 all_goals rfl
theorem evF_eq (T:Tab):∀ n,evF T n=ev T n
 | 0=>rfl
 | n+1=>by
   funext rho c a H
   show stepF c T (evF T n) n rho a H=step T (ev T n) n rho c a H;rw [stepF_eq,evF_eq T n]
theorem runF_eq (T:Tab) (n:Nat) (f:FuncId) (args:List V) (H:Heap):runF T n f args H=run T n f args H:=by
 unfold runF run;rw [evF_eq]
end
end Go.Am

set_option linter.unusedSimpArgs false
namespace Go.Am
open Go
variable {P:Program} {T:Tab} {μ:Mu} {H:Heap} {w:World}
def noCount (P : Program) : Bool := P.funcs.all fun fn => !(fn.name == "runtime.NumGoroutine")
theorem tab0_ok (hn:noCount P=true):TabOk P (tab0 P) where
 und _ _ h:=h
 size t n b h:=by
  simp only [tab0,Option.map_eq_some_iff,Prod.mk.injEq] at h;obtain ⟨i,h1,h2,h3⟩:=h;exact ⟨i,h1,h2,h3⟩
 zero t zs h:=by
  simp only [tab0] at h;split at h
  ·rename_i i hi;split at h
   ·rename_i z hz;split at h
    ·rename_i v hv
     cases h
     exact ⟨i,z,hi,hz,fun μ=>(RV.ofVal μ hv).cells⟩
    ·cases h
   ·cases h
  ·cases h
 zeroV t v h:=by
  simp only [tab0] at h;split at h
  ·rename_i i hi;split at h
   ·rename_i z hz;exact ⟨i,z,hi,hz,fun μ=>RV.ofVal μ h⟩
   ·cases h
  ·cases h
 eqS t xs ys r h:=by cases h
 meth t name path f b h:=by
  simp only [tab0] at h;split at h
  ·rename_i i hi;split at h
   ·rename_i m hm;split at h
    ·rename_i f' p' hf
     cases h
     exact ⟨i,m,hi,hm,rfl,hf⟩
    ·cases h
   ·cases h
  ·cases h
 func f fn h:=by
  refine ⟨h,?_⟩;unfold noCount at hn;rw [Array.all_eq_true_iff_forall_mem] at hn;have:=hn fn (Array.mem_of_getElem? h);simpa using this
theorem bytes_mk (a b:List UInt8):((⟨⟨a⟩⟩:ByteArray) == ⟨⟨b⟩⟩)=(a == b):=by
 rw [Bool.eq_iff_iff,MapKept.bytes_beq];simp
def eqBody (n:Nat) (xs ys:Array Value) (f:Field):Sem (ForInStep (Option Bool×Unit)):=
 if f.name ≠ "_" then do
  let a ← Go.part f.type xs f.offset
  let b ← Go.part f.type ys f.offset
  let c ← Op.equalIn n f.type a b
  if (!c)=true then pure (ForInStep.done (some false,())) else pure (ForInStep.yield (none,()))
 else pure (ForInStep.yield (none,()))
theorem equalIn_struct {n:Nat} {t:TypeId} {fs:Array Field} {xs ys:Array Value} (h:(underlying t).run P w=.ok (.struct fs) w) (hs:P.stoodInHeld t=false) {r:Bool}
  (hb:(forIn fs.toList ((none,()):Option Bool×Unit) fun f _=>eqBody n xs ys f).run P w=.ok (if r then (none,()) else (some false,())) w):(Op.equalIn (n+1) t (.agg xs) (.agg ys)).run P w=.ok r w:=by
 simp only [Op.equalIn,Sem.run_bind,h,Result.andThen_ok,run_program,hs,Bool.false_eq_true,if_false];rw [← Array.forIn_toList];unfold eqBody at hb;rw [hb]
 cases r <;> rfl
theorem eqBody_cons {n : Nat} {xs ys : Array Value} {f : Field} {fs : List Field} (hn : (f.name == "_") = false) {u v : Value} (h1 : (Go.part f.type xs f.offset).run P w = .ok u w) (h2 : (Go.part f.type ys f.offset).run P w = .ok v w) {c : Bool} (h3 : (Op.equalIn n f.type u v).run P w = .ok c w) :
  (forIn (f::fs) ((none,()):Option Bool×Unit) fun f _=>eqBody n xs ys f).run P w=if c then (forIn fs ((none,()):Option Bool×Unit) fun f _=>eqBody n xs ys f).run P w else .ok (some false,()) w:=by
 have hn' : f.name ≠ "_" := by simpa using hn
 rw [List.forIn_cons];simp only [eqBody,Sem.run_bind,hn',ne_eq,not_false_eq_true,if_true,h1,h2,h3,Result.andThen_ok]
 cases c <;> simp [Sem.run_bind]
theorem eqF_ok (hT:TabOk P T) {n:Nat} {eq:TypeId→V→V→Option Bool} {xs ys:List V} {us vs:List Value} (hu:RVL μ xs us) (hv:RVL μ ys vs)
  (ih:∀ (t:TypeId) (x y:V) (r:Bool),eq t x y=some r→∀ (u v:Value),RV μ x u→RV μ y v→(Op.equalIn n t u v).run P w=.ok r w):∀ (fs:List Field) (r:Bool),eqF eq T xs ys fs=some r →
  (forIn fs ((none,()):Option Bool×Unit) fun f _=>eqBody n ⟨us⟩ ⟨vs⟩ f).run P w=.ok (if r then (none,()) else (some false,())) w
 | [],r,e=>by simp only [eqF,Option.some.injEq] at e;subst e;rfl
 | f::fs,r,e=>by
   simp only [eqF] at e
   cases hn : f.name == "_" with
   | true=>rw [hn] at e;cases e
   | false =>
     rw [hn] at e;simp only [cond_false] at e;split at e
     ·rename_i x y hx hy;obtain ⟨u,hu1,hu2⟩:=run_part (P:=P) (w:=w) hT hu hx;obtain ⟨v,hv1,hv2⟩:=run_part (P:=P) (w:=w) hT hv hy;split at e
      ·rename_i hc;rw [eqBody_cons hn hu1 hv1 (ih _ _ _ _ hc u v hu2 hv2)];exact eqF_ok hT hu hv ih fs r e
      ·rename_i hc
       cases e
       rw [eqBody_cons hn hu1 hv1 (ih _ _ _ _ hc u v hu2 hv2)]
       rfl
      ·cases e
     ·cases e
theorem eqV_ok (hn:noCount P=true):∀ (d n:Nat) (t:TypeId) (x y:V) (r:Bool),d≤n→eqV P (tab0 P) d t x y=some r→∀ (μ:Mu) (w:World) (u v:Value),RV μ x u→RV μ y v→(Op.equalIn n t u v).run P w=.ok r w:=by
 intro d
 induction d with
 | zero=>intro n t x y r _ e;simp [eqV] at e
 | succ d ih =>
   intro n t x y r hd e μ w u v hu hv;obtain ⟨n,rfl⟩:∃ m,n=m+1:=⟨n - 1,by omega⟩
   have hT:=tab0_ok hn;unfold eqV at e;split at e
   ·rename_i h;split at e
    ·cases e;cases hu;cases hv
     simp [Op.equalIn,run_und (hT.und _ _ h)]
    ·cases e
   ·rename_i k h;split at e
    ·rename_i j a k b
     cases hjk:decide (j=k) with
     | false=>rw [hjk] at e;cases e
     | true =>
       rw [hjk] at e
       cases e;cases hu;cases hv
       have:j=k:=by simpa using hjk
       subst this;simp [Op.equalIn,run_und (hT.und _ _ h)];rw [Bool.eq_iff_iff];simp
    ·cases e
   ·rename_i h;split at e
    ·cases e;cases hu;cases hv
     simp [Op.equalIn,run_und (hT.und _ _ h),bytes_mk]
    ·cases e
   ·rename_i fs h;split at e
    ·rename_i xs ys
     cases hs:P.stoodInHeld t with
     | true=>rw [hs] at e;cases e
     | false =>
       rw [hs] at e;simp only [cond_false] at e
       cases hu with
       | agg hu=>cases hv with
         | agg hv =>
         exact equalIn_struct (run_und (hT.und _ _ h)) hs (eqF_ok hT hu hv (fun t x y r e u v hu hv=>ih n t x y r (by omega) e μ w u v hu hv) _ _ e)
    ·cases e
   ·cases e
theorem tabOf_ok (hn:noCount P=true) (prim:FuncId→Option (List V→Heap→Option (V×Heap))):TabOk P (tabOf P prim) where
 und:=(tab0_ok hn).und
 size:=(tab0_ok hn).size
 zero:=(tab0_ok hn).zero
 zeroV:=(tab0_ok hn).zeroV
 meth:=(tab0_ok hn).meth
 func:=(tab0_ok hn).func
 eqS t xs ys r h:=by
  simp only [tabOf] at h
  cases hg:P.eqGuardType P.depth t with
  | true=>rw [hg] at h;cases h
  | false =>
    rw [hg] at h;simp only [cond_false] at h;exact ⟨rfl,fun μ w us vs hu hv=>eqV_ok hn 9 _ _ _ _ _ (by simp [Op.maxDepth]) h μ w _ _ (.agg hu) (.agg hv)⟩
end Go.Am

namespace Go.Am
open Go
variable {P:Program} {T:Tab} {μ:Mu} {H:Heap} {w w':World}
def isTrue:CR→Bool
 | .returned (.bool true) _=>true
 | _=>false
theorem isTrue_eq {r:CR} (h:isTrue r=true):∃ H,r=.returned (.bool true) H:=by
 unfold isTrue at h;split at h
 ·exact ⟨_,rfl⟩
 ·cases h
theorem empty_get (l:Nat):Heap.empty.get l=none:=leaf_get 0 l
theorem sim_none (w:World):Sim (fun _=>none) Heap.empty w:=
 ⟨fun l o e=>by (rw [empty_get] at e;cases e),fun l l' o o' b x y b' x' y' e=>by (rw [empty_get] at e;cases e),fun l x e=>by cases e⟩
theorem Post.below (h:Sim μ H w) (b:RowKit.Below w.heap.size w w'):Post μ H w μ H w':=by
 refine ⟨⟨fun l o e=>(h.obj l o e).mono (fun _ _ q=>q) fun bb x y m hl=>b.block bb ?_,h.inj,h.dom⟩,b.os,b.tape,b.output,b.size,Nat.le_refl _,fun _ _=>rfl,fun bb hb _=>b.block bb hb,fun _ _ q=>q,fun _ _ q=>q,fun _ _ q=>q⟩;obtain ⟨b',x',y',m',hlt⟩:=(h.obj l o e).block hl;rw [m] at m';cases m';exact hlt
theorem known_walk (hmix:P.follows .mixedOrders=true) (hn:noCount P=true) {prim:FuncId→Option (List V→Heap→Option (V×Heap))} (hP:PrimOk P (tabOf P prim)) {n:Nat} {f:FuncId} (hpf:prim f=none)
  (h:isTrue (runF (tabOf P prim) n f [] Heap.empty)=true) (w:World):Calls P f #[] w fun e w'=>e=.returned (.bool true)∧RowKit.Below w.heap.size w w':=by
 rw [runF_eq] at h;obtain ⟨H',hr⟩:=isTrue_eq h;have:=run_ok (w:=w) hmix (tabOf_ok hn _) hP (n:=n) (f:=f) (as:=[]) (H:=Heap.empty) hpf (by rw [hr];simp) (μ:=fun _=>none) (us:=[]) (sim_none w) .nil;refine this.mono fun e w' hc=>?_;rw [hr] at hc
 cases e with
 | panicked ch=>exact hc.elim
 | outgrown=>exact hc.elim
 | returned u =>
   obtain ⟨μ',hv,hp⟩:=hc
   cases hv
   refine ⟨rfl,hp.os,hp.tape,hp.output,hp.size,fun b hb=>hp.kept b hb ?_⟩;rintro ⟨l,o,x,y,e,_⟩;rw [empty_get] at e;cases e
def closedTrue:List V→Heap→Option (V×Heap)
 | [],H=>some (.bool true,H)
 | _,_=>none
theorem closed_prim (hn:noCount P=true) {f:FuncId} {fn:Func} {c:Code} (hf:P.funcs[f]?=some fn) (hb:fn.body=some c)
  (hw:∀ w,Calls P f #[] w fun e w'=>e=.returned (.bool true)∧RowKit.Below w.heap.size w w') {as:List V} {H H':Heap} {v:V} (e:closedTrue as H=some (v,H')) {us:List Value} (h:Sim μ H w) (hr:RVL μ as us) :
  Entered P μ H w f us (.returned v H'):=by
 unfold closedTrue at e;split at e
 ·cases e
  cases hr
  refine .inl ⟨callsIn_wide.2 ((hw w).mono ?_),run_callFunc (tab0_ok hn) (f:=f) (fn:=fn) hf hb #[]⟩;rintro e w' ⟨rfl,hbl⟩;exact ⟨μ,.bool true,Post.below h hbl⟩
 ·cases e
theorem noPrim:PrimOk P (tabOf P fun _=>none):=fun f g hg=>by cases hg
end Go.Am
