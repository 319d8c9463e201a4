import GoSem.Step
import Derived.RangeFuncRecord
import Derived.RangeFuncLeaves
import Derived.RecoverIn
import Derived.OrdersIn
import Derived.Below
/- THE SMALL MACHINE 'Am': Go.Code run over an abstract heap, in one fixed order, with checks that every other order that Go leaves open comes to the same. Definitions alone. -/
set_option linter.unusedVariables false
namespace Go.Am
/-! ### A persistent array -/
inductive Tr (α:Type) where
 | leaf
 | node (v:Option α) (l r:Tr α)
noncomputable def Tr.get {α:Type} (t:Tr α):Nat→Option α:=
 Tr.rec (motive:=fun _=>Nat→Option α) (fun _=>none) (fun v _ _ gl gr i=>cond (Nat.beq i 0) v (cond (Nat.beq (i % 2) 1) (gl (i / 2)) (gr (i / 2 - 1)))) t
def Tr.mk {α:Type}:Nat→Nat→α→Tr α
 | 0,_,_=>.leaf
 | f+1,i,a=>cond (Nat.beq i 0) (.node (some a) .leaf .leaf)
    (cond (Nat.beq (i % 2) 1) (.node none (Tr.mk f (i / 2) a) .leaf) (.node none .leaf (Tr.mk f (i / 2 - 1) a)))
noncomputable def Tr.set {α:Type} (t:Tr α):Nat→α→Tr α:=
 Tr.rec (motive:=fun _=>Nat→α→Tr α) (fun i a=>Tr.mk (i+1) i a) (fun v l r sl sr i a=>cond (Nat.beq i 0) (.node (some a) l r)
   (cond (Nat.beq (i % 2) 1) (.node v (sl (i / 2) a) r) (.node v l (sr (i / 2 - 1) a)))) t
noncomputable section
/-! ### Values, objects, the heap -/
inductive V where
 | bool (b:Bool)
 | int (k:IntKind) (n:Int)
 | str (s:List UInt8)
 | ptr (l o:Nat)
 | nilPtr
 /-- object,cell at which it begins,elements,cells an element,capacity where it is known -/
 | slice (l o n s:Nat) (c:Option Nat)
 | nilSlice
 | map (r:Nat)
 | nilMap
 | func (fn:Fn) (first captured:List V)
 | nilFunc
 | iface (t:TypeId) (v:V)
 | nilIface
 | agg (cs:List V)
 | tuple (vs:List V)
 deriving Inhabited
abbrev undefV:V:=.tuple []
structure Ts where
 n:Nat
 t:Tr V
def Ts.get (s:Ts) (i:Nat):V:=(s.t.get i).getD undefV
def Ts.put (s:Ts) (i:Nat) (v:V):Ts:=cond (Nat.blt i s.n) ⟨s.n,s.t.set i v⟩ s
inductive D where
 | fn (f:FuncId) (args:List V)
 | collected (r:Nat)
inductive O where
 | cells (ro:Bool) (vs:List V)
 | stale
 | map (es:List (V×V))
 | loop (st:LoopState) (pending:Option Code) (fn:FuncId) (tmps:Ts) (params:List Tmp) (assign body:Code) (defers:Nat)
 | deferred (ds:Option (List D))
structure Heap where
 n:Nat
 t:Tr O
def Heap.get (H:Heap) (l:Nat):Option O:=cond (Nat.blt l H.n) (H.t.get l) none
def Heap.put (H:Heap) (l:Nat) (o:O):Heap:=⟨H.n,H.t.set l o⟩
def Heap.push (H:Heap) (o:O):Heap:=⟨H.n+1,H.t.set H.n o⟩
structure Tab where
 und:TypeId→Option TypeDesc
 /-- cells,bytes -/
 size:TypeId→Option (Nat×Nat)
 zero:TypeId→Option (List V)
 zeroV:TypeId→Option V
 /-- '==' of two structs -/
 eqS:TypeId→List V→List V→Option Bool
 func:FuncId→Option Func
 /-- function,does it take a pointer -/
 meth:TypeId→String→Option (List FieldStep×FuncId×Bool)
 /-- functions that are not walked -/
 prim:FuncId→Option (List V→Heap→Option (V×Heap))
mutual
def ofVal:Value→Option V
 | .bool b=>some (.bool b)
 | .int k n=>some (.int k n)
 | .string ⟨⟨s⟩⟩=>some (.str s)
 | .pointer none=>some .nilPtr
 | .slice none 0 0=>some .nilSlice
 | .map none=>some .nilMap
 | .nilFunc=>some .nilFunc
 | .nilIface=>some .nilIface
 | .agg ⟨cs⟩=>(ofVals cs).map .agg
 | .tuple ⟨cs⟩=>(ofVals cs).map .tuple
 | .iface t v=>(ofVal v).map (.iface t)
 | _=>none
def ofVals:List Value→Option (List V)
 | []=>some []
 | v::vs=>match ofVal v with
   | none=>none
   | some x=>match ofVals vs with
     | none=>none
     | some xs=>some (x::xs)
end
structure A where
 tmps:Ts
 defers:List D
def A.tmp (a:A) (t:Tmp):V:=a.tmps.get t
def A.eval (a:A):Operand→Option V
 | .tmp t=>some (a.tmp t)
 | .const v=>ofVal v
 | .global _=>none
 | .func f=>some (.func (.func f) [] [])
def A.put (a:A) (dst:Option Tmp) (v:V):A:=
 match dst with
 | some d=>⟨a.tmps.put d v,a.defers⟩
 | none=>a
def V.cells:V→List V
 | .agg cs=>cs
 | v=>[v]
def V.one:V→Bool
 | .agg _ | .tuple _=>false
 | _=>true
/-! ### Cells -/
def cellsAt (H:Heap) (l:Nat):Option (List V):=
 match H.get l with
 | some (.cells _ vs)=>some vs
 | _=>none
def take? (vs:List V) (o n:Nat):Option (List V):=
 let r:=(vs.drop o).take n
 cond (Nat.beq r.length n) (some r) none
def isAgg? (T:Tab) (t:TypeId):Option Bool:=
 match T.und t with
 | some (.struct _) | some (.array _ _)=>some true
 | some _=>some false
 | none=>none
def loadVar (T:Tab) (H:Heap) (t:TypeId) (l o:Nat):Option V:=
 match cellsAt H l with
 | none=>none
 | some vs=>match isAgg? T t with
   | some true=>match T.size t with
     | some (n,_)=>(take? vs o n).map .agg
     | none=>none
   | some false=>vs[o]?
   | none=>none
def over:List V→Nat→List V→List V
 | vs,0,[]=>vs
 | _::vs,0,c::cs=>c::over vs 0 cs
 | v::vs,o+1,cs=>v::over vs o cs
 | [],_,_=>[]
def putCells (H:Heap) (l o:Nat) (cs:List V):Option Heap:=
 match H.get l with
 | some (.cells false vs)=>cond (Nat.ble (o+cs.length) vs.length && cs.all V.one) (some (H.put l (.cells false (over vs o cs)))) none
 | _=>none
def storeVar (T:Tab) (H:Heap) (t:TypeId) (l o:Nat) (v:V):Option Heap:=
 match T.size t with
 | some (n,_)=>cond (Nat.beq v.cells.length n) (putCells H l o v.cells) none
 | none=>none
def fill (place:Nat→Option (Nat×Nat)) (cells:List V):List (Nat×V)→Option (List V)
 | []=>some cells
 | (i,v)::rest=>match place i with
   | none=>none
   | some (off,size)=>cond (Nat.beq v.cells.length size && Nat.ble (off+size) cells.length) (fill place (over cells off v.cells) rest) none
def zeros (z:List V):Nat→List V
 | 0=>[]
 | n+1=>z++zeros z n
/-! ### Operations on values -/
def sameCell:V→V→Option Bool
 | .int j a,.int k b=>cond (decide (j=k)) (some (decide (a=b))) none
 | .bool a,.bool b=>some (a == b)
 | .str a,.str b=>some (a == b)
 | _,_=>none
def isConst:Operand→Bool
 | .const _=>true
 | _=>false
def equal (T:Tab) (t:TypeId) (k:Bool) (x y:V):Option Bool:=
 match T.und t with
 | some (.pointer _)=>match x,y with
   | .ptr _ _,.nilPtr | .nilPtr,.ptr _ _=>some false
   | .nilPtr,.nilPtr=>some true
   | _,_=>none
 | some (.slice _)=>match x,y with
   | .slice _ _ _ _ _,.nilSlice | .nilSlice,.slice _ _ _ _ _=>some false
   | .nilSlice,.nilSlice=>some true
   | _,_=>none
 | some (.map _ _)=>match x,y with
   | .map _,.nilMap | .nilMap,.map _=>some false
   | .nilMap,.nilMap=>some true
   | _,_=>none
 | some (.func _ _ _)=>match x,y with
   | .func _ _ _,.nilFunc | .nilFunc,.func _ _ _=>some false
   | .nilFunc,.nilFunc=>some true
   | _,_=>none
 | some (.interface _)=>match x,y with
   | .iface _ _,.nilIface | .nilIface,.iface _ _=>some false
   | .nilIface,.nilIface=>cond k (some true) none
   | _,_=>none
 | some (.struct _)=>match x,y with
   | .agg xs,.agg ys=>T.eqS t xs ys
   | _,_=>none
 | some .bool=>match x,y with
   | .bool a,.bool b=>some (a == b)
   | _,_=>none
 | _=>none
def pureInt:Sem Value→Option V
 | .pure (.int k n)=>some (.int k n)
 | .pure (.bool b)=>some (.bool b)
 | _=>none
def intOp (op:BinOp) (k:IntKind) (a b:Int):Option V:=
 match op with
 | .add=>some (.int k (k.wrap (a+b)))
 | .sub=>some (.int k (k.wrap (a - b)))
 | .mul=>some (.int k (k.wrap (a * b)))
 | .quo=>cond (decide (b=0)) none (some (.int k (k.wrap (a.tdiv b))))
 | .rem=>cond (decide (b=0)) none (some (.int k (a.tmod b)))
 | .eql=>some (.bool (decide (a=b)))
 | .neq=>some (.bool (!decide (a=b)))
 | .lss=>some (.bool (decide (a<b)))
 | .leq=>some (.bool (decide (a≤b)))
 | .gtr=>some (.bool (decide (a > b)))
 | .geq=>some (.bool (decide (a ≥ b)))
 | .and | .or | .xor | .andNot=>pureInt (Op.intBits op k a b)
 | _=>none
def strOp (op:BinOp) (x y:List UInt8):Option V:=
 match op with
 | .add=>cond (Nat.blt (x.length+y.length) 1099511627776) (some (.str (x++y))) none
 | .eql=>some (.bool (x == y))
 | .neq=>some (.bool !(x == y))
 | .lss=>some (.bool (Op.bytesLess x y))
 | .leq=>some (.bool (Op.bytesLess x y || x == y))
 | .gtr=>some (.bool !(Op.bytesLess x y || x == y))
 | .geq=>some (.bool !(Op.bytesLess x y))
 | _=>none
def binOp (T:Tab) (op:BinOp) (t:TypeId) (k:Bool) (x y:V):Option V:=
 match x,y with
 | .int j a,.int j' b =>
   match op with
   | .shl | .shr=>cond (decide (b<0)) none (pureInt (Op.shift op j a j' b))
   | _=>cond (decide (j=j')) (intOp op j a b) none
 | .str a,.str b=>strOp op a b
 | x,y=>match op with
   | .eql=>(equal T t k x y).map .bool
   | .neq=>(equal T t k x y).map fun b=>.bool (!b)
   | _=>none
def unOp (op:UnOp) (x:V):Option V:=
 match op,x with
 | .neg,.int k n=>some (.int k (k.wrap (0 - n)))
 | .not,.bool b=>some (.bool (!b))
 | _,_=>none
def bytesOf:List V→Option (List UInt8)
 | []=>some []
 | .int .u8 n::vs=>(bytesOf vs).map (UInt8.ofNat n.toNat::·)
 | _=>none
def bytesOk:Bool:=false
def convert (T:Tab) (H:Heap) (src dst:TypeId) (x:V):Option (V×Heap):=
 match T.und src,T.und dst with
 | some us,some ud=>match us,ud,x with
   | _,.int k,.int _ n=>some (.int k (k.wrap n),H)
   | _,.string,.str s=>some (.str s,H)
   | _,.slice e,.str s=>match T.und e with
     | some (.int .u8)=>cond (bytesOk && Nat.blt s.length 17592186044416) (some (.slice H.n 0 s.length 1 none,H.push (.cells false (s.map fun b=>.int .u8 b.toNat)))) none
     | _=>none
   | .slice _,.slice e,.slice l o n s c=>cond (bytesOk && (Nat.beq src dst && Nat.blt 0 n)) (match T.und e,H.get l with
     | some (.int .u8),some (.cells false vs)=>some (.slice l o n s c,H.put l (.cells false vs))
     | _,_=>none) none
   | .slice e,.string,x=>match T.und e,x with
     | some (.int .u8),.nilSlice=>some (.str [],H)
     | some (.int .u8),.slice l o n _ _=>match cellsAt H l with
       | some vs=>match take? vs o n with
         | some cs=>(bytesOf cs).map fun s=>(.str s,H)
         | none=>none
       | none=>none
     | _,_=>none
   | _,_,_=>none
 | _,_=>none
def natOf:V→Option Nat
 | .int _ n=>match n with
   | .ofNat m=>some m
   | _=>none
 | _=>none
def optNat (x:Option V) (d:Nat):Option Nat:=
 match x with
 | none=>some d
 | some v=>natOf v
def sliceOp (T:Tab) (H:Heap) (t:TypeId) (x:V) (lo hi mx:Option V):Option V:=
 match T.und t with
 | some .string=>match x,mx,optNat lo 0 with
   | .str s,none,some a=>match optNat hi s.length with
     | some b=>cond (Nat.ble a b && Nat.ble b s.length) (some (.str ((s.take b).drop a))) none
     | none=>none
   | _,_,_=>none
 | some (.slice e)=>match x,T.size e,optNat lo 0 with
   | .nilSlice,some _,some a=>match optNat hi 0,mx with
     | some b,none=>cond (Nat.beq a 0 && Nat.beq b 0) (some .nilSlice) none
     | _,_=>none
   | .slice l o n s c,some (sz,_),some a=>match optNat hi n,mx with
     | some b,none=>cond (Nat.beq sz s && Nat.ble a b && Nat.ble b (c.getD n))
       (some (match c with
        | some m=>cond (Nat.beq m a) (.slice l o 0 s (some 0)) (.slice l (o+a * s) (b - a) s (some (m - a)))
        | none=>.slice l (o+a * s) (b - a) s none)) none
     | some b,some v=>match natOf v with
       | some m=>cond (Nat.beq sz s && Nat.ble a b && Nat.ble b m && Nat.ble m (c.getD n) && hi.isSome)
         (some (cond (Nat.beq m a) (.slice l o 0 s (some 0)) (.slice l (o+a * s) (b - a) s (some (m - a))))) none
       | none=>none
     | _,_=>none
   | _,_,_=>none
 | some (.array n e)=>match x,T.size e,optNat lo 0 with
   | .ptr l o,some (s,_),some a=>match optNat hi n,mx,cellsAt H l with
     | some b,none,some vs=>cond (Nat.ble a b && Nat.ble b n && Nat.ble (o+n * s) vs.length && Nat.ble n 9223372036854775807)
       (some (cond (Nat.beq n a) (.slice l o 0 s (some 0)) (.slice l (o+a * s) (b - a) s (some (n - a))))) none
     | _,_,_=>none
   | _,_,_=>none
 | _=>none
def fieldsOf (T:Tab) (t:TypeId):Option (Array Field):=
 match T.und t with
 | some (.struct fs)=>some fs
 | _=>none
def part (T:Tab) (t:TypeId) (cs:List V) (o:Nat):Option V:=
 match isAgg? T t with
 | some true=>match T.size t with
   | some (n,_)=>(take? cs o n).map .agg
   | none=>none
 | some false=>cs[o]?
 | none=>none
def evals (a:A):List Operand→Option (List V)
 | []=>some []
 | x::xs=>match a.eval x with
   | none=>none
   | some v=>match evals a xs with
     | none=>none
     | some vs=>some (v::vs)
def evalParts (a:A):List (Nat×Operand)→Option (List (Nat×V))
 | []=>some []
 | (i,x)::xs=>match a.eval x with
   | none=>none
   | some v=>match evalParts a xs with
     | none=>none
     | some vs=>some ((i,v)::vs)
def evalOpt (a:A):Option Operand→Option (Option V)
 | none=>some none
 | some x=>(a.eval x).map some
/-! ### Maps -/
def mapFind (k:V):List (V×V)→Option (Option V)
 | []=>some none
 | (k',v)::es=>match sameCell k k' with
   | some true=>some (some v)
   | some false=>mapFind k es
   | none=>none
def mapSet (k x:V):List (V×V)→Option (List (V×V))
 | []=>some [(k,x)]
 | (k',v)::es=>match sameCell k k' with
   | some true=>some ((k,x)::es)
   | some false=>(mapSet k x es).map ((k',v)::·)
   | none=>none
def keyOk (T:Tab) (kt:TypeId) (k:V):Bool:=
 match T.und kt,k with
 | some (.int j),.int j' _=>decide (j=j')
 | some .string,.str _=>true
 | some .bool,.bool _=>true
 | _,_=>false
def mapGet (H:Heap) (m k:V):Option (Option V):=
 match m with
 | .nilMap=>some none
 | .map r=>match H.get r with
   | some (.map es)=>mapFind k es
   | _=>none
 | _=>none
def lookup (T:Tab) (H:Heap) (t:TypeId) (m k:V) (ok:Bool):Option V:=
 match T.und t with
 | some (.map kt et)=>cond (keyOk T kt k) (
   match mapGet H m k with
   | none=>none
   | some (some v)=>some (cond ok (.tuple [v,.bool true]) v)
   | some none=>match T.zeroV et with
     | some z=>some (cond ok (.tuple [z,.bool false]) z)
     | none=>none) none
 | _=>none
def mapUpdate (T:Tab) (H:Heap) (t:TypeId) (m k x:V):Option Heap:=
 match T.und t,m with
 | some (.map kt _),.map r=>cond (keyOk T kt k) (match H.get r with
   | some (.map es)=>(mapSet k x es).map fun es'=>H.put r (.map es')
   | _=>none) none
 | _,_=>none
/-! ### append, copy -/
def firstCells (H:Heap) (s n:Nat):V→Option (List V)
 | .slice l o _ _ _=>match cellsAt H l with
   | some vs=>take? vs o (n * s)
   | none=>none
 | .nilSlice=>cond (Nat.beq n 0) (some []) none
 | .str x=>cond (Nat.beq s 1 && Nat.ble n x.length) (some ((x.take n).map fun b=>.int .u8 b.toNat)) none
 | _=>none
def lenOf:V→Option Nat
 | .slice _ _ n _ _=>some n
 | .nilSlice=>some 0
 | .str x=>some x.length
 | _=>none
def retire (H:Heap) (l:Nat):Option Heap:=
 match H.get l with
 | some (.cells false _)=>some (H.put l .stale)
 | _=>none
def appended (H:Heap) (u1:TypeDesc) (s bytes:Nat) (z:List V) (y:V):Option (Nat×List V):=
 match u1 with
 | .int _=>match natOf y with
   | some n=>cond (Nat.blt n 17592186044416 && Nat.blt (n * bytes) 17592186044416) (some (n,zeros z n)) none
   | none=>none
 | _=>match lenOf y with
   | some n=>(firstCells H s n y).map fun cs=>(n,cs)
   | none=>none
def append (T:Tab) (H:Heap) (at0 at1:TypeId) (x y:V):Option (V×Heap):=
 match T.und at0,T.und at1 with
 | some (.slice e),some u1=>match T.size e,T.zero e with
   | some (s,bytes),some z=>cond (Nat.beq z.length s) (match appended H u1 s bytes z y with
     | none=>none
     | some (n,new)=>match x with
       | .nilSlice=>cond (Nat.blt n 17592186044416 && Nat.blt (n * bytes) 17592186044416)
         (cond (Nat.beq n 0) (some (.nilSlice,H)) (some (.slice H.n 0 n s none,H.push (.cells false new)))) none
       | .slice l o m s' c=>cond (Nat.beq s s' && Nat.blt (m+n) 17592186044416 && Nat.blt ((m+n) * bytes) 17592186044416) (cond (Nat.beq n 0) (some (.slice l o m s' c,H)) (
         match firstCells H s m x with
         | none=>none
         | some old=>match c with
           | some q=>cond (Nat.ble (m+n) q) ((putCells H l (o+m * s) new).map fun H'=>(.slice l o (m+n) s c,H'))
             (some (.slice H.n 0 (m+n) s none,H.push (.cells false (old++new))))
           | none=>cond (new.all V.one) (match retire H l with
             | some H'=>some (.slice H'.n 0 (m+n) s none,H'.push (.cells false (old++new)))
             | none=>none) none)) none
       | _=>none) none
   | _,_=>none
 | _,_=>none
def copy (T:Tab) (H:Heap) (at0:TypeId) (x y:V):Option (V×Heap):=
 match T.und at0 with
 | some (.slice e)=>match T.size e,lenOf x,lenOf y with
   | some (s,_),some m,some n =>
     let k:=min n m
     match firstCells H s k y,x with
     | some _,.nilSlice=>some (.int .i64 0,H)
     | some cs,.slice l o _ s' _=>cond (Nat.beq s s') (cond (Nat.beq k 0) (some (.int .i64 0,H)) ((putCells H l o cs).map fun H'=>(.int .i64 k,H'))) none
     | _,_=>none
   | _,_,_=>none
 | _=>none
def extremum (op:Int→Int→Bool):V→List V→Option V
 | x,[]=>some x
 | .int k a,.int k' b::vs=>cond (decide (k=k')) (extremum op (.int k (cond (op b a) b a)) vs) none
 | _,_=>none
def placeOf (T:Tab) (fs:Array Field) (i:Nat):Option (Nat×Nat):=
 match fs[i]? with
 | some f=>match T.size f.type with
   | some (n,_)=>some (f.offset,n)
   | none=>none
 | none=>none
def sizesOk (T:Tab):List Field→Bool
 | []=>true
 | f::fs=>match T.size f.type with
   | some _=>sizesOk T fs
   | none=>false
/-! ### One operation -/
inductive OR where
 | val (v:V) (H:Heap)
 | call (f:FuncId) (args:List V)
 | round (l:Nat) (args:List V)
 | defer (d:D)
 | panic (v:V)
 | recover
 | stuck
def OR.ofV (H:Heap):Option V→OR
 | some v=>.val v H
 | none=>.stuck
def OR.ofH (H:Option Heap):OR:=
 match H with
 | some H=>.val undefV H
 | none=>.stuck
def OR.ofVH:Option (V×Heap)→OR
 | some (v,H)=>.val v H
 | none=>.stuck
def builtin (T:Tab) (H:Heap) (b:Builtin) (ts:Array TypeId) (args:List V):OR:=
 match b,args with
 | .len,[x]=>match ts[0]? with
   | none=>.stuck
   | some t=>match T.und t with
     | some .string=>match x with
       | .str s=>.val (.int .i64 s.length) H
       | _=>.stuck
     | some (.slice _)=>match x with
       | .slice _ _ n _ _=>.val (.int .i64 n) H
       | .nilSlice=>.val (.int .i64 0) H
       | _=>.stuck
     | some (.map _ _)=>match x with
       | .nilMap=>.val (.int .i64 0) H
       | .map r=>match H.get r with
         | some (.map es)=>.val (.int .i64 es.length) H
         | _=>.stuck
       | _=>.stuck
     | _=>.stuck
 | .cap,[x]=>match ts[0]? with
   | none=>.stuck
   | some t=>match T.und t with
     | some (.slice _)=>match x with
       | .slice _ _ _ _ (some c)=>.val (.int .i64 c) H
       | .nilSlice=>.val (.int .i64 0) H
       | _=>.stuck
     | _=>.stuck
 | .append,[x,y]=>match ts[0]?,ts[1]? with
   | some t0,some t1=>.ofVH (append T H t0 t1 x y)
   | _,_=>.stuck
 | .copy,[x,y]=>match ts[0]? with
   | some t0=>.ofVH (copy T H t0 x y)
   | _=>.stuck
 | .clear,[x]=>match ts[0]? with
   | some t0=>match T.und t0,x with
     | some (.slice _),.nilSlice=>.val undefV H
     | some (.slice e),.slice l o n s _=>match T.zero e with
       | some z=>cond (Nat.beq z.length s) (cond (Nat.beq n 0) (.val undefV H) (.ofH (putCells H l o (zeros z n)))) .stuck
       | none=>.stuck
     | _,_=>.stuck
   | _=>.stuck
 | .min,x::xs=>.ofV H (extremum (fun b a=>decide (b<a)) x xs)
 | .max,x::xs=>.ofV H (extremum (fun b a=>decide (b > a)) x xs)
 | .recover,[]=>.recover
 | _,_=>.stuck
def callee (f:V) (args:List V):OR:=
 match f with
 | .func (.func g) first captured=>.call g (first++args++captured)
 | .func (.yield l) [] []=>.round l args
 | _=>.stuck
inductive Pl where
 | val (v:V)
 | var (l o:Nat)
def Pl.get (T:Tab) (H:Heap) (t:TypeId):Pl→Option V
 | .val v=>some v
 | .var l o=>loadVar T H t l o
def follow (T:Tab) (H:Heap):List FieldStep→TypeId→Pl→Option (TypeId×Pl)
 | [],t,x=>some (t,x)
 | s::rest,t,x=>match T.und s.struct with
   | some (.struct fs)=>match fs[s.index]? with
     | some f=>match T.size f.type with
       | some (n,_)=>cond (Nat.beq n 0) none (
         match s.deref with
         | true=>match x.get T H t with
           | some (.ptr l o)=>follow T H rest f.type (.var l (o+f.offset))
           | _=>none
         | false=>match x with
           | .var l o=>follow T H rest f.type (.var l (o+f.offset))
           | .val (.agg cs)=>match part T f.type cs f.offset with
             | some v=>follow T H rest f.type (.val v)
             | none=>none
           | _=>none)
       | none=>none
     | none=>none
   | _=>none
def receiver (T:Tab) (H:Heap) (t:TypeId) (x:Pl) (p:Bool):Option V:=
 match T.und t with
 | some (.pointer e)=>match p with
   | true=>x.get T H t
   | false=>match x.get T H t with
     | some (.ptr l o)=>loadVar T H e l o
     | _=>none
 | some _=>match p,x with
   | true,.var l o=>some (.ptr l o)
   | false,x=>x.get T H t
   | _,_=>none
 | none=>none
def invoked (T:Tab) (H:Heap) (r:V) (name:String) (args:List V):OR:=
 match r with
 | .iface t v=>match T.meth t name with
   | some (path,f,p)=>match follow T H path t (.val v) with
     | some (xt,x)=>match receiver T H xt x p with
       | some y=>.call f (y::args)
       | none=>.stuck
     | none=>.stuck
   | none=>.stuck
 | _=>.stuck
def callOp (T:Tab) (a:A) (H:Heap) (c:Call):OR:=
 match evals a c.args.toList with
 | none=>.stuck
 | some args=>match c.callee with
   | .builtin b=>builtin T H b c.argTypes args
   | .invoke r name=>match a.eval r with
     | some r=>invoked T H r name args
     | none=>.stuck
   | .value f=>match a.eval f with
     | some f=>callee f args
     | none=>.stuck
def op1 (a:A) (x:Operand) (k:V→OR):OR:=
 match a.eval x with
 | some v=>k v
 | none=>.stuck
def execOp (T:Tab) (a:A) (H:Heap) (o:Op):OR:=
 match o with
 | .move x | .assign x=>op1 a x fun v=>.val v H
 | .pick c x y=>op1 a c fun
   | .bool true=>op1 a x fun v=>.val v H
   | .bool false=>op1 a y fun v=>.val v H
   | _=>.stuck
 | .alloc t=>match T.zero t with
   | some z=>.val (.ptr H.n 0) (H.push (.cells false z))
   | none=>.stuck
 | .box _ x=>op1 a x fun v=>.val (.ptr H.n 0) (H.push (.cells false v.cells))
 | .build t ps=>match T.zero t,evalParts a ps.toList,T.und t with
   | some z,some ps,some (.struct fs)=>cond (sizesOk T fs.toList) (.ofV H ((fill (placeOf T fs) z ps).map .agg)) .stuck
   | some z,some ps,some (.array _ e)=>match T.size e with
     | some (s,_)=>.ofV H ((fill (fun i=>some (i * s,s)) z ps).map .agg)
     | none=>.stuck
   | _,_,_=>.stuck
 | .buildSlice t n ps=>match T.und t with
   | some (.slice e)=>match T.size e,T.zero e,evalParts a ps.toList with
     | some (s,_),some z,some ps=>cond (Nat.ble (n * s) 16777216 && Nat.beq z.length s) (match fill (fun i=>some (i * s,s)) (zeros z n) ps with
       | some cs=>.val (.slice H.n 0 n s (some n)) (H.push (.cells false cs))
       | none=>.stuck) .stuck
     | _,_,_=>.stuck
   | _=>.stuck
 | .load t x=>op1 a x fun
   | .ptr l o=>.ofV H (loadVar T H t l o)
   | _=>.stuck
 | .store t x y=>op1 a x fun
   | .ptr l o=>op1 a y fun v=>.ofH (storeVar T H t l o v)
   | _=>.stuck
 | .nilCheck x=>op1 a x fun
   | .nilPtr | .nilIface | .nilFunc=>.stuck
   | .func (.func f) u v=>.val (.func (.func f) u v) H
   | .func (.yield f) u v=>.val (.func (.yield f) u v) H
   | .func _ _ _=>.stuck
   | v=>.val v H
 | .binOp op t x y _=>op1 a x fun u=>op1 a y fun v=>.ofV H (binOp T op t (isConst x || isConst y) u v)
 | .unOp op _ x=>op1 a x fun v=>.ofV H (unOp op v)
 | .convert s d x=>op1 a x fun v=>.ofVH (convert T H s d v)
 | .makeInterface t x=>op1 a x fun v=>match T.und t with
   | some (.interface _) | none=>.stuck
   | some _=>.val (.iface t v) H
 | .makeFunc fn first captured=>match fn,evals a first.toList,evals a captured.toList with
   | .func f,some u,some v=>.val (.func (.func f) u v) H
   | _,_,_=>.stuck
 | .makeMap _ none=>.val (.map H.n) (H.push (.map []))
 | .makeMap t (some x)=>op1 a x fun v=>match T.und t,v with
   | some (.map _ _),.int _ _=>.val (.map H.n) (H.push (.map []))
   | _,_=>.stuck
 | .makeSlice t x y=>op1 a x fun u=>op1 a y fun v=>match T.und t,natOf u,natOf v with
   | some (.slice e),some n,some c=>match T.size e,T.zero e with
     | some (s,bytes),some z=>cond (Nat.ble n c && Nat.blt (c * bytes) 17592186044416 && Nat.blt c 17592186044416 && Nat.beq z.length s && Nat.blt 0 s)
       (.val (.slice H.n 0 n s (some c)) (H.push (.cells false (zeros z c)))) .stuck
     | _,_=>.stuck
   | _,_,_=>.stuck
 | .slice t x lo hi mx=>op1 a x fun v=>match evalOpt a lo,evalOpt a hi,evalOpt a mx with
   | some lo,some hi,some mx=>.ofV H (sliceOp T H t v lo hi mx)
   | _,_,_=>.stuck
 | .fieldAddr t x i=>op1 a x fun
   | .ptr l o=>match fieldsOf T t with
     | some fs=>match fs[i]? with
       | some f=>match T.size f.type with
         | some (n,_)=>cond (Nat.beq n 0) .stuck (.val (.ptr l (o+f.offset)) H)
         | none=>.stuck
       | none=>.stuck
     | none=>.stuck
   | _=>.stuck
 | .field t x i=>op1 a x fun
   | .agg cs=>match fieldsOf T t with
     | some fs=>match fs[i]? with
       | some f=>.ofV H (part T f.type cs f.offset)
       | none=>.stuck
     | none=>.stuck
   | _=>.stuck
 | .indexAddr t x i=>op1 a x fun u=>op1 a i fun v=>match T.und t,u,natOf v with
   | some (.slice e),.slice l o n s _,some j=>match T.size e with
     | some (sz,_)=>cond (Nat.beq sz s && Nat.blt j n) (.val (.ptr l (o+j * s)) H) .stuck
     | none=>.stuck
   | some (.array n e),.ptr l o,some j=>match T.size e with
     | some (s,_)=>cond (Nat.blt j n) (.val (.ptr l (o+j * s)) H) .stuck
     | none=>.stuck
   | _,_,_=>.stuck
 | .index t x i=>op1 a x fun u=>op1 a i fun v=>match T.und t,u,natOf v with
   | some .string,.str s,some j=>match s[j]? with
     | some b=>.val (.int .u8 b.toNat) H
     | none=>.stuck
   | some (.array n e),.agg cs,some j=>match T.size e with
     | some (s,_)=>cond (Nat.blt j n) (.ofV H (part T e cs (j * s))) .stuck
     | none=>.stuck
   | _,_,_=>.stuck
 | .lookup t x i ok=>op1 a x fun u=>op1 a i fun v=>.ofV H (lookup T H t u v ok)
 | .mapUpdate t m k x | .insert t m k x=>op1 a m fun m=>op1 a k fun k=>op1 a x fun v=>.ofH (mapUpdate T H t m k v)
 | .typeAssert x _ u ok=>op1 a x fun v=>match T.und u,v with
   | some (.interface _),_ | none,_=>.stuck
   | some _,.iface t w=>cond (Nat.beq t u) (.val (cond ok (.tuple [w,.bool true]) w) H)
     (cond ok (match T.zeroV u with
      | some z=>.val (.tuple [z,.bool false]) H
      | none=>.stuck) .stuck)
   | some _,.nilIface=>cond ok (match T.zeroV u with
      | some z=>.val (.tuple [z,.bool false]) H
      | none=>.stuck) .stuck
   | _,_=>.stuck
 | .extract x i=>op1 a x fun
   | .tuple vs=>.ofV H vs[i]?
   | _=>.stuck
 | .call c=>callOp T a H c
 | .defer c=>match c.callee,evals a c.args.toList with
   | .value g,some args=>match a.eval g with
     | some (.func (.func f) first captured)=>.defer (.fn f (first++args++captured))
     | _=>.stuck
   | _,_=>.stuck
 | .panic x=>op1 a x fun
   | .iface t v=>.panic (.iface t v)
   | _=>.stuck
 | _=>.stuck
/-! ### Regions -/
def quiet:Op→Bool
 | .move _ | .assign _ | .pick .. | .alloc _ | .box .. | .build .. | .buildSlice .. | .nilCheck _ | .binOp .. | .unOp .. | .makeInterface ..
 | .makeFunc .. | .makeMap .. | .makeSlice .. | .slice .. | .fieldAddr .. | .field .. | .indexAddr .. | .index .. | .typeAssert .. | .extract ..=>true
 | .call { callee:=.builtin .len,.. } | .call { callee:=.builtin .cap,.. } | .call { callee:=.builtin .min,.. } | .call { callee:=.builtin .max,.. }=>true
 | _=>false
def reads:Op→Bool
 | .load ..=>true
 | _=>false
def loud (o:Op):Bool:=!(quiet o || reads o)
def tmpsOf (xs:List Operand):List Tmp:=xs.filterMap fun
 | .tmp t=>some t
 | _=>none
def looks (ops:Array Oper) (o:Oper):List Tmp:=
 tmpsOf o.op.operands.toList++(match o.guard with
  | some (g,_)=>((ops[g]?).bind (·.dst)).toList
  | none=>[])
def apart (ops:Array Oper) (x y:Oper):Bool:=
 (match x.dst with
  | some d=>!(looks ops y).contains d && !(y.dst == some d)
  | none=>true) &&
 (match y.dst with
  | some d=>!(looks ops x).contains d
  | none=>true) && !(loud x.op && loud y.op)
def pairsOk (ops:Array Oper) (bef:Array Nat):Bool:=
 (List.range ops.size).all fun j=>(List.range j).all fun i =>
  (bef.getD j 0).testBit i || (match ops[i]?,ops[j]? with
   | some x,some y=>apart ops x y
   | _,_=>false)
def edgesOk (ops:Array Oper) (bef:Array Nat):Bool:=
 (List.range ops.size).all fun j=>match ops[j]? with
  | some o=>(o.after.all fun e=>!Region.binds .any e || Nat.blt e.on j) &&
    (match o.guard with
     | some (g,_)=>(bef.getD j 0).testBit g
     | none=>true)
  | none=>false
def sched (ops:Array Oper) (bef:Array Nat):List Nat:=
 let loudOnes:=(List.range ops.size).filter fun i=>match ops[i]? with
  | some o=>loud o.op
  | none=>false
 let go:=loudOnes.foldl (fun (acc:List Nat×Nat) h =>
  let new:=(List.range h).filter fun i=>(bef.getD h 0).testBit i && !acc.2.testBit i
  (acc.1++new++[h],(acc.2 ||| bef.getD h 0) ||| 2 ^ h)) ([],0)
 go.1++(List.range ops.size).filter fun i=>!go.2.testBit i
def orderOk (ops:Array Oper) (bef:Array Nat):List Nat→Bool
 | []=>true
 | i::rest=>(rest.all fun j=>!Nat.beq i j && !(bef.getD i 0).testBit j && (match ops[j]? with
    | some o=>!loud o.op || (bef.getD j 0).testBit i
    | none=>false)) && orderOk ops bef rest
def dstsOk (ops:Array Oper):List Nat→Bool
 | []=>true
 | i::rest=>(match (ops[i]?).bind (·.dst) with
    | some d=>rest.all fun j=>!((ops[j]?).bind (·.dst) == some d)
    | none=>true) && dstsOk ops rest
def drawOk (ops:Array Oper):Bool:=
 let bef:=Region.before ops
 pairsOk ops bef && edgesOk ops bef && orderOk ops bef (sched ops bef) && dstsOk ops (List.range ops.size) && ((List.range ops.size).all fun i=>(sched ops bef).contains i) && ((sched ops bef).all fun i=>Nat.blt i ops.size)
inductive Ex where
 | normal
 | exit (id:Nat)
 | goto (l:Nat)
 | ret
 | panic (v:V)
def sameV.same1:V→V→Bool
 | .bool a,.bool b=>a == b
 | .int j a,.int k b=>decide (j=k) && decide (a=b)
 | .str a,.str b=>a == b
 | .ptr a b,.ptr c d=>Nat.beq a c && Nat.beq b d
 | .nilPtr,.nilPtr=>true
 | .slice a b c d e,.slice a' b' c' d' e'=>Nat.beq a a' && Nat.beq b b' && Nat.beq c c' && Nat.beq d d' && decide (e=e')
 | .nilSlice,.nilSlice=>true
 | .map a,.map b=>Nat.beq a b
 | .nilMap,.nilMap=>true
 | .nilFunc,.nilFunc=>true
 | .nilIface,.nilIface=>true
 | .func (.func f) [] [],.func (.func g) [] []=>Nat.beq f g
 | .func (.func f) [] [.ptr a b],.func (.func g) [] [.ptr c d]=>Nat.beq f g && Nat.beq a c && Nat.beq b d
 | .iface t (.int j a),.iface u (.int k b)=>Nat.beq t u && decide (j=k) && decide (a=b)
 | _,_=>false
def sameV.sameVs:List V→List V→Bool
 | [],[]=>true
 | x::xs,y::ys=>sameV.same1 x y && sameV.sameVs xs ys
 | _,_=>false
def sameV:V→V→Bool
 | .agg xs,.agg ys=>sameV.sameVs xs ys
 | x,y=>sameV.same1 x y
def stood (T:Tab) (a:A) (o:Oper) (v:V) (mask:Nat):List (Nat×Heap)→Bool
 | []=>true
 | (h,H)::rest=>(mask.testBit h || (match execOp T a H o.op with
   | .val u _=>sameV u v
   | _=>false)) && stood T a o v mask rest
def wanted (ops:Array Oper) (a:A) (o:Oper):Bool:=
 match o.guard with
 | none=>true
 | some (j,want)=>match (ops[j]?).bind (·.dst) with
   | some d=>match a.tmp d with
     | .bool b=>b == want
     | _=>false
   | none=>false
inductive CR where
 | returned (v:V) (H:Heap)
 | panicked (v:V) (H:Heap)
 | stuck
abbrev Ev:=Option Nat→Code→A→Heap→Option (Ex×A×Heap)
def results (T:Tab) (H:Heap) (a:A):List ResultVar→Option (List V)
 | []=>some []
 | .tmp t::rs=>match results T H a rs with
   | some vs=>some (a.tmp t::vs)
   | none=>none
 | .cell p t::rs=>match a.tmp p with
   | .ptr l o=>match loadVar T H t l o,results T H a rs with
     | some v,some vs=>some (v::vs)
     | _,_=>none
   | _=>none
def pack:List V→V
 | [v]=>v
 | vs=>.tuple vs
def initT:List V→Nat→Tr V→Tr V
 | [],_,t=>t
 | v::vs,i,t=>initT vs (i+1) (t.set i v)
inductive Md where
 | returning
 | panicking (v:V)
 | recovered (v:V)
def opsD (T:Tab) (ops:Array Oper):List Nat→Md→A→Heap→Option (Ex×Md×A×Heap)
 | [],m,a,H=>some (.normal,m,a,H)
 | i::rest,m,a,H=>match ops[i]? with
   | none=>none
   | some o=>cond (wanted ops a o) (match execOp T a H o.op with
     | .val v H'=>opsD T ops rest m (a.put o.dst v) H'
     | .recover=>match m with
       | .panicking v=>opsD T ops rest (.recovered v) (a.put o.dst v) H
       | m=>opsD T ops rest m (a.put o.dst .nilIface) H
     | _=>none) (opsD T ops rest m (a.put o.dst undefV) H)
def evD (T:Tab):Nat→Code→Md→A→Heap→Option (Ex×Md×A×Heap)
 | 0,_,_,_,_=>none
 | n+1,c,m,a,H=>match c with
   | .skip=>some (.normal,m,a,H)
   | .ret=>some (.ret,m,a,H)
   | .seq x y=>match evD T n x m a H with
     | some (.normal,m',a',H')=>evD T n y m' a' H'
     | r=>r
   | .cond x y z=>match a.eval x with
     | some (.bool true)=>evD T n y m a H
     | some (.bool false)=>evD T n z m a H
     | _=>none
   | .region _ ops false=>opsD T ops (List.range ops.size) m a H
   | _=>none
def start (args:List V) (n:Nat):A:=⟨⟨n,initT args 0 .leaf⟩,[]⟩
def callD (T:Tab) (n:Nat) (f:FuncId) (args:List V) (m:Md) (H:Heap):Option (Md×Heap):=
 match T.func f with
 | none=>none
 | some fn=>match fn.body with
   | none=>none
   | some c=>cond (Nat.ble args.length fn.ntmps) (match evD T n c m (start args fn.ntmps) H with
     | some (.normal,m',_,H') | some (.ret,m',_,H')=>cond fn.results.isEmpty (some (m',H')) none
     | _=>none) none
def Md.settle:Md→Md
 | .recovered _=>.returning
 | m=>m
def leave (T:Tab) (n:Nat) (fn:Func) (a:A):List D→Md→Heap→CR
 | d::ds,m,H=>match d with
   | .collected r=>match H.get r with
     | some (.deferred (some []))=>leave T n fn a ds m (H.put r (.deferred none))
     | _=>.stuck
   | .fn g args=>match callD T n g args m H with
     | some (m',H')=>leave T n fn a ds m'.settle H'
     | none=>.stuck
 | [],.panicking v,H=>.panicked v H
 | [],_,H=>match results T H a fn.results.toList with
   | some vs=>.returned (pack vs) H
   | none=>.stuck
def enter (T:Tab) (ev:Ev) (fuel:Nat) (f:FuncId) (args:List V) (H:Heap):CR:=
 match T.func f with
 | none=>.stuck
 | some fn=>match fn.body with
   | none=>.stuck
   | some c=>cond (Nat.ble args.length fn.ntmps) (match ev none c (start args fn.ntmps) H with
     | some (.normal,a,H') | some (.ret,a,H')=>leave T fuel fn a a.defers .returning H'
     | some (.panic v,a,H')=>leave T fuel fn a a.defers (.panicking v) H'
     | _=>.stuck) .stuck
def calls (T:Tab) (ev:Ev) (fuel:Nat) (f:FuncId) (args:List V) (H:Heap):CR:=
 match T.prim f with
 | some g=>match g args H with
   | some (v,H')=>.returned v H'
   | none=>.stuck
 | none=>enter T ev fuel f args H
def round (ev:Ev) (l:Nat) (args:List V) (H:Heap):CR:=
 match H.get l with
 | some (.loop .ready p fn tmps params assign body ds)=>cond (Nat.beq args.length params.length) (
   let tmps':=(params.zip args).foldl (fun t (x:Tmp×V)=>t.put x.1 x.2) tmps
   match ev (some l) assign ⟨tmps',[]⟩ H with
   | some (.normal,a,H1)=>match H1.get l with
     | some (.loop .ready p1 fn1 tmps1 params1 assign1 body1 ds1)=>match ev (some l) body a (H1.put l (.loop .busy p1 fn1 tmps1 params1 assign1 body1 ds1)) with
       | some (e,_,H2)=>match H2.get l with
         | some (.loop .busy _ fn2 tmps2 params2 assign2 body2 ds2) =>
           match e with
           | .normal=>.returned (.bool true) (H2.put l (.loop .ready none fn2 tmps2 params2 assign2 body2 ds2))
           | .ret=>.returned (.bool false) (H2.put l (.loop .done (some .ret) fn2 tmps2 params2 assign2 body2 ds2))
           | .exit id=>.returned (.bool false) (H2.put l (.loop .done (some (.exit id)) fn2 tmps2 params2 assign2 body2 ds2))
           | _=>.stuck
         | _=>.stuck
       | none=>.stuck
     | _=>.stuck
   | _=>.stuck) .stuck
 | _=>.stuck
def runOps (T:Tab) (ev:Ev) (fuel:Nat) (rho:Option Nat) (ops:Array Oper):List Nat→A→Heap→Option (Ex×A×Heap)
 | [],a,H=>some (.normal,a,H)
 | i::rest,a,H=>match ops[i]? with
   | none=>none
   | some o=>cond (wanted ops a o) (
     match execOp T a H o.op with
     | .val v H'=>runOps T ev fuel rho ops rest (a.put o.dst v) H'
     | .call f args=>match calls T ev fuel f args H with
       | .returned v H'=>runOps T ev fuel rho ops rest (a.put o.dst v) H'
       | .panicked v H'=>some (.panic v,a,H')
       | .stuck=>none
     | .round l args=>match round ev l args H with
       | .returned v H'=>runOps T ev fuel rho ops rest (a.put o.dst v) H'
       | _=>none
     | .defer d=>cond rho.isNone (runOps T ev fuel rho ops rest ((A.mk a.tmps (d::a.defers)).put o.dst undefV) H) none
     | .panic v=>some (.panic v,a,H)
     | .recover=>none
     | .stuck=>none) (runOps T ev fuel rho ops rest (a.put o.dst undefV) H)
def quietAt (T:Tab) (a:A) (k:Nat) (o:Op):Option (V×Option O):=
 match execOp T a ⟨k,.leaf⟩ o with
 | .val v H1=>cond (Nat.beq H1.n k) (some (v,none)) (match H1.get k with
   | some ob=>some (v,some ob)
   | none=>none)
 | _=>none
def runDraw (T:Tab) (ev:Ev) (fuel:Nat) (ops:Array Oper) (bef:Array Nat) (k:Nat):List Nat→List (Nat×Heap)→A→Heap→Option (A×Heap)
 | [],_,a,H=>some (a,H)
 | i::rest,snaps,a,H=>match ops[i]? with
   | none=>none
   | some o=>cond (wanted ops a o) (
     cond (quiet o.op) (match quietAt T a (k+i) o.op with
      | some (v,none)=>runDraw T ev fuel ops bef k rest snaps (a.put o.dst v) H
      | some (v,some ob)=>runDraw T ev fuel ops bef k rest snaps (a.put o.dst v) (H.put (k+i) ob)
      | none=>none)
     (cond (reads o.op) (match execOp T a H o.op with
      | .val v H'=>cond (stood T a o v (bef.getD i 0) snaps) (runDraw T ev fuel ops bef k rest snaps (a.put o.dst v) H') none
      | _=>none)
     (match execOp T a H o.op with
      | .val v H'=>runDraw T ev fuel ops bef k rest ((i,H)::snaps) (a.put o.dst v) H'
      | .call f args=>match calls T ev fuel f args H with
        | .returned v H'=>runDraw T ev fuel ops bef k rest ((i,H)::snaps) (a.put o.dst v) H'
        | _=>none
      | .round l args=>match round ev l args H with
        | .returned v H'=>runDraw T ev fuel ops bef k rest ((i,H)::snaps) (a.put o.dst v) H'
        | _=>none
      | _=>none))) (runDraw T ev fuel ops bef k rest snaps (a.put o.dst undefV) H)
def Heap.keep (H:Heap) (n:Nat):Heap:=⟨H.n+n,H.t⟩
def Heap.clean (H:Heap) (n:Nat):Bool:=(List.range n).all fun i=>(H.t.get (H.n+i)).isNone
def step (T:Tab) (ev:Ev) (fuel:Nat):Ev:=fun rho c a H =>
 match c with
 | .skip=>some (.normal,a,H)
 | .label _=>some (.normal,a,H)
 | .ret=>some (.ret,a,H)
 | .exit id=>some (.exit id,a,H)
 | .seq x y=>match ev rho x a H with
   | some (.normal,a',H')=>ev rho y a' H'
   | r=>r
 | .cond x y z=>match a.eval x with
   | some (.bool true)=>ev rho y a H
   | some (.bool false)=>ev rho z a H
   | _=>none
 | .block id b=>match ev rho b a H with
   | some (.exit j,a',H')=>cond (Nat.beq j id) (some (.normal,a',H')) (some (.exit j,a',H'))
   | r=>r
 | .loop b=>match ev rho b a H with
   | some (.normal,a',H')=>ev rho (.loop b) a' H'
   | r=>r
 | .scope b=>match ev rho b a H with
   | some (.goto _,_,_)=>none
   | r=>r
 | .region _ ops false=>runOps T ev fuel rho ops (List.range ops.size) a H
 | .region _ ops true=>cond (drawOk ops && H.clean ops.size) (match runDraw T ev fuel ops (Region.before ops) H.n (sched ops (Region.before ops)) [] a (H.keep ops.size) with
   | some (a',H')=>some (.normal,a',H')
   | none=>none) none
 | .rangeFunc f params assign body =>
   match a.eval f with
   | none=>none
   | some g =>
     match (match rho with
      | none=>some (H.n,[D.collected H.n],H.push (.deferred (some [])))
      | some l=>match H.get l with
        | some (.loop _ _ _ _ _ _ _ ds)=>some (ds,[],H)
        | _=>none:Option (Nat×List D×Heap)) with
     | none=>none
     | some (ds,mark,H1) =>
       match callee g [.func (.yield H1.n) [] []] with
       | .call k args=>cond (T.prim k).isSome none (match calls T ev fuel k args (H1.push (.loop .ready none 0 a.tmps params.toList assign body ds)) with
         | .returned _ H2=>match H2.get H1.n with
           | some (.loop st p fn tmps ps as bo ds') =>
             cond (match st with | .busy=>true | _=>false) none (
              let H3:=H2.put H1.n (.loop .exhausted p fn tmps ps as bo ds')
              let a':A:=⟨a.tmps,mark++a.defers⟩
              match p with
              | none=>some (.normal,a',H3)
              | some .ret=>some (.ret,a',H3)
              | some (.exit id)=>some (.exit id,a',H3)
              | some _=>none)
           | _=>none
         | _=>none)
       | _=>none
 | _=>none
def ev (T:Tab):Nat→Ev
 | 0=>fun _ _ _ _=>none
 | n+1=>step T (ev T n) n
def run (T:Tab) (n:Nat) (f:FuncId) (args:List V) (H:Heap):CR:=calls T (ev T n) n f args H
def Heap.empty:Heap:=⟨0,.leaf⟩
/-! ### The tables of a program -/
def eqF (eq:TypeId→V→V→Option Bool) (T:Tab) (xs ys:List V):List Field→Option Bool
 | []=>some true
 | f :: fs => cond (f.name == "_") none (match part T f.type xs f.offset, part T f.type ys f.offset with
   | some x,some y=>match eq f.type x y with
     | some true=>eqF eq T xs ys fs
     | some false=>some false
     | none=>none
   | _,_=>none)
def eqV (P:Program) (T:Tab):Nat→TypeId→V→V→Option Bool
 | 0,_,_,_=>none
 | d+1,t,x,y=>match T.und t with
   | some .bool=>match x,y with
     | .bool a,.bool b=>some (a == b)
     | _,_=>none
   | some (.int _)=>match x,y with
     | .int j a,.int k b=>cond (decide (j=k)) (some (decide (a=b))) none
     | _,_=>none
   | some .string=>match x,y with
     | .str a,.str b=>some (a == b)
     | _,_=>none
   | some (.struct fs)=>match x,y with
     | .agg xs,.agg ys=>cond (P.stoodInHeld t) none (eqF (eqV P T d) T xs ys fs.toList)
     | _,_=>none
   | _=>none
def tab0 (P:Program):Tab where
 und:=P.underlying
 size t:=(P.info? t).map fun i=>(i.size,i.bytes)
 zero t:=match P.info? t with
  | some i=>match i.zero with
    | some z=>match ofVal z with
      | some v=>some v.cells
      | none=>none
    | none=>none
  | none=>none
 zeroV t:=match P.info? t with
  | some i=>match i.zero with
    | some z=>ofVal z
    | none=>none
  | none=>none
 eqS _ _ _:=none
 func f:=P.funcs[f]?
 meth t name:=match P.info? t with
  | some i=>match i.methods.find? (·.name == name) with
    | some m=>match m.func with
      | some (f,p)=>some (m.path.toList,f,p)
      | none=>none
    | none=>none
  | none=>none
 prim _:=none
def tabOf (P:Program) (prim:FuncId→Option (List V→Heap→Option (V×Heap))):Tab:=
 { tab0 P with
   eqS:=fun t xs ys=>cond (P.eqGuardType P.depth t) none (eqV P (tab0 P) 9 t (.agg xs) (.agg ys))
   prim:=prim }
end
end Go.Am

namespace Go.Am
theorem cond_beq {α:Type} (a b:Nat) (x y:α):cond (Nat.beq a b) x y=if a=b then x else y:=by
 by_cases h:a=b
 ·subst h;simp
 ·have:Nat.beq a b=false:=by rw [← Bool.not_eq_true,Nat.beq_eq];exact h
  simp [this,h]
theorem cond_blt {α:Type} (a b:Nat) (x y:α):cond (Nat.blt a b) x y=if a<b then x else y:=by
 by_cases h:a<b
 ·have:Nat.blt a b=true:=by rw [Nat.blt_eq];exact h
  simp [this,h]
 ·have:Nat.blt a b=false:=by rw [← Bool.not_eq_true,Nat.blt_eq];exact h
  simp [this,h]
theorem cond_ble {α:Type} (a b:Nat) (x y:α):cond (Nat.ble a b) x y=if a≤b then x else y:=by
 by_cases h:a≤b
 ·have:Nat.ble a b=true:=by rw [Nat.ble_eq];exact h
  simp [this,h]
 ·have:Nat.ble a b=false:=by rw [← Bool.not_eq_true,Nat.ble_eq];exact h
  simp [this,h]
theorem Tr.get_leaf {α:Type} (i:Nat):(Tr.leaf:Tr α).get i=none:=rfl
theorem Tr.get_node {α:Type} (v:Option α) (l r:Tr α) (i:Nat) :
  (Tr.node v l r).get i=if i=0 then v else if i % 2=1 then l.get (i / 2) else r.get (i / 2 - 1):=by
 show cond (Nat.beq i 0) v (cond (Nat.beq (i % 2) 1) (l.get (i / 2)) (r.get (i / 2 - 1)))=_;simp only [cond_beq]
theorem Tr.set_leaf {α:Type} (i:Nat) (a:α):(Tr.leaf:Tr α).set i a=Tr.mk (i+1) i a:=rfl
theorem Tr.set_node {α:Type} (v:Option α) (l r:Tr α) (i:Nat) (a:α) :
  (Tr.node v l r).set i a=cond (Nat.beq i 0) (.node (some a) l r) (cond (Nat.beq (i % 2) 1) (.node v (l.set (i / 2) a) r) (.node v l (r.set (i / 2 - 1) a))):=rfl
theorem Tr.get_mk {α:Type} (a:α):∀ (f i j:Nat),i<f→(Tr.mk f i a).get j=if i=j then some a else none:=by
 intro f
 induction f with
 | zero=>intro i j h;omega
 | succ f ih =>
   intro i j h;simp only [Tr.mk,cond_beq]
   by_cases hi:i=0
   ·rw [if_pos hi,Tr.get_node]
    by_cases hj:j=0
    ·simp [hi,hj]
    ·have hij:¬ i=j:=by omega
     rw [if_neg hj,if_neg hij];simp [Tr.get_leaf]
   ·rw [if_neg hi]
    by_cases ho:i % 2=1
    ·rw [if_pos ho,Tr.get_node]
     by_cases hj:j=0
     ·rw [if_pos hj,if_neg (by omega)]
     ·rw [if_neg hj]
      by_cases hjo:j % 2=1
      ·rw [if_pos hjo,ih _ _ (by omega)]
       by_cases e:i=j
       ·subst e;simp
       ·rw [if_neg (by omega),if_neg e]
      ·rw [if_neg hjo,Tr.get_leaf,if_neg (by omega)]
    ·rw [if_neg ho,Tr.get_node]
     by_cases hj:j=0
     ·rw [if_pos hj,if_neg (by omega)]
     ·rw [if_neg hj]
      by_cases hjo:j % 2=1
      ·rw [if_pos hjo,Tr.get_leaf,if_neg (by omega)]
      ·rw [if_neg hjo,ih _ _ (by omega)]
       by_cases e:i=j
       ·subst e;simp
       ·rw [if_neg (by omega),if_neg e]
theorem Tr.get_set {α:Type} (a:α):∀ (t:Tr α) (i j:Nat),(t.set i a).get j=if i=j then some a else t.get j:=by
 intro t
 induction t with
 | leaf=>intro i j;rw [Tr.set_leaf];rw [Tr.get_mk a (i+1) i j (by omega),Tr.get_leaf]
 | node v l r ihl ihr =>
   intro i j;simp only [Tr.set_node,cond_beq]
   by_cases hi:i=0
   ·rw [if_pos hi,Tr.get_node,Tr.get_node]
    by_cases hj:j=0
    ·simp [hi,hj]
    ·have hij:¬ i=j:=by omega
     rw [if_neg hj,if_neg hj,if_neg hij]
   ·rw [if_neg hi]
    by_cases ho:i % 2=1
    ·rw [if_pos ho,Tr.get_node,Tr.get_node]
     by_cases hj:j=0
     ·rw [if_pos hj,if_pos hj,if_neg (by omega)]
     ·rw [if_neg hj,if_neg hj]
      by_cases hjo:j % 2=1
      ·rw [if_pos hjo,if_pos hjo,ihl]
       by_cases e:i=j
       ·subst e;simp
       ·rw [if_neg (by omega),if_neg e]
      ·rw [if_neg hjo,if_neg hjo,if_neg (by omega)]
    ·rw [if_neg ho,Tr.get_node,Tr.get_node]
     by_cases hj:j=0
     ·rw [if_pos hj,if_pos hj,if_neg (by omega)]
     ·rw [if_neg hj,if_neg hj]
      by_cases hjo:j % 2=1
      ·rw [if_pos hjo,if_pos hjo,if_neg (by omega)]
      ·rw [if_neg hjo,if_neg hjo,ihr]
       by_cases e:i=j
       ·subst e;simp
       ·rw [if_neg (by omega),if_neg e]
theorem Heap.get_eq (H:Heap) (l:Nat):H.get l=if l<H.n then H.t.get l else none:=by simp only [Heap.get,cond_blt]
theorem Heap.lt {H:Heap} {l:Nat} {o:O} (h:H.get l=some o):l<H.n:=by
 rw [Heap.get_eq] at h;split at h
 ·assumption
 ·cases h
theorem Heap.get_push (H:Heap) (o:O) (l:Nat):(H.push o).get l=if l=H.n then some o else H.get l:=by
 simp only [Heap.get_eq,Heap.push,Tr.get_set]
 by_cases h:l=H.n
 ·subst h;simp
 ·rw [if_neg h]
  by_cases h2:l<H.n
  ·rw [if_pos (by omega),if_neg (by omega),if_pos h2]
  ·rw [if_neg (by omega),if_neg h2]
theorem Heap.get_put {H:Heap} {l:Nat} (hl:l<H.n) (o:O) (k:Nat):(H.put l o).get k=if k=l then some o else H.get k:=by
 simp only [Heap.get_eq,Heap.put,Tr.get_set]
 by_cases h:k=l
 ·subst h;simp [hl]
 ·have h':¬ l=k:=fun e=>h e.symm;simp only [if_neg h,if_neg h']
@[simp] theorem Heap.n_push (H:Heap) (o:O):(H.push o).n=H.n+1:=rfl
@[simp] theorem Heap.n_put (H:Heap) (l:Nat) (o:O):(H.put l o).n=H.n:=rfl
theorem Ts.get_put (s:Ts) (i:Nat) (v:V) (j:Nat):(s.put i v).get j=if i=j∧i<s.n then v else s.get j:=by
 simp only [Ts.put,Ts.get,cond_blt]
 by_cases h:i<s.n
 ·rw [if_pos h];simp only [Tr.get_set]
  by_cases e:i=j <;> simp [e,h]
  intro h';omega
 ·rw [if_neg h,if_neg (fun e=>h e.2)]
@[simp] theorem Ts.n_put (s:Ts) (i:Nat) (v:V):(s.put i v).n=s.n:=by
  simp only [Ts.put,cond_blt];split <;> rfl
end Go.Am

namespace Go.Am
open Go
abbrev Mu:=Nat→Option (Nat×Nat×Nat)
mutual
inductive RV (μ:Mu):V→Value→Prop
 | bool (b:Bool):RV μ (.bool b) (.bool b)
 | int (k:IntKind) (n:Int):RV μ (.int k n) (.int k n)
 | str (s:List UInt8):RV μ (.str s) (.string ⟨⟨s⟩⟩)
 | ptr {l o b base tot:Nat} (h:μ l=some (b,base,tot)):RV μ (.ptr l o) (.pointer (some ⟨b,base+o,none⟩))
 | nilPtr:RV μ .nilPtr (.pointer none)
 | slice {l o n s:Nat} {c:Option Nat} {b base tot cap:Nat} {ad:Addr} (h:μ l=some (b,base,tot)) (hn:n≤cap) (hc:∀ m,c=some m→cap=m)
   (ht:base+o+cap * s≤tot) (ho:cap=0∨ad=⟨b,base+o,none⟩) (hb:s=0∨cap≤9223372036854775807):RV μ (.slice l o n s c) (.slice (some ad) n cap)
 | nilSlice:RV μ .nilSlice (.slice none 0 0)
 | map {r b x y:Nat} (h:μ r=some (b,x,y)):RV μ (.map r) (.map (some b))
 | nilMap:RV μ .nilMap (.map none)
 | func {f:FuncId} {us vs:List V} {us' vs':List Value} (h1:RVL μ us us') (h2:RVL μ vs vs'):RV μ (.func (.func f) us vs) (.func (.func f) ⟨us'⟩ ⟨vs'⟩)
 | yield {l b x y:Nat} (h:μ l=some (b,x,y)):RV μ (.func (.yield l) [] []) (.func (.yield b) #[] #[])
 | nilFunc:RV μ .nilFunc .nilFunc
 | iface {t:TypeId} {v:V} {u:Value} (h:RV μ v u):RV μ (.iface t v) (.iface t u)
 | nilIface:RV μ .nilIface .nilIface
 | agg {cs:List V} {us:List Value} (h:RVL μ cs us):RV μ (.agg cs) (.agg ⟨us⟩)
 | tuple {cs:List V} {us:List Value} (h:RVL μ cs us):RV μ (.tuple cs) (.tuple ⟨us⟩)
inductive RVL (μ:Mu):List V→List Value→Prop
 | nil:RVL μ [] []
 | cons {v:V} {u:Value} {vs:List V} {us:List Value} (h:RV μ v u) (t:RVL μ vs us):RVL μ (v::vs) (u::us)
end
theorem RV.undef (μ:Mu):RV μ undefV Go.undef:=.tuple .nil
mutual
theorem RV.mono {μ μ':Mu} (hm:∀ l x,μ l=some x→μ' l=some x):∀ {v:V} {u:Value},RV μ v u→RV μ' v u
 | _,_,.bool b=>.bool b
 | _,_,.int k n=>.int k n
 | _,_,.str s=>.str s
 | _,_,.ptr h=>.ptr (hm _ _ h)
 | _,_,.nilPtr=>.nilPtr
 | _,_,.slice h hn hc ht ho hb=>.slice (hm _ _ h) hn hc ht ho hb
 | _,_,.nilSlice=>.nilSlice
 | _,_,.map h=>.map (hm _ _ h)
 | _,_,.nilMap=>.nilMap
 | _,_,.func h1 h2=>.func (RVL.mono hm h1) (RVL.mono hm h2)
 | _,_,.yield h=>.yield (hm _ _ h)
 | _,_,.nilFunc=>.nilFunc
 | _,_,.iface h=>.iface (RV.mono hm h)
 | _,_,.nilIface=>.nilIface
 | _,_,.agg h=>.agg (RVL.mono hm h)
 | _,_,.tuple h=>.tuple (RVL.mono hm h)
theorem RVL.mono {μ μ':Mu} (hm:∀ l x,μ l=some x→μ' l=some x):∀ {v:List V} {u:List Value},RVL μ v u→RVL μ' v u
 | _,_,.nil=>.nil
 | _,_,.cons h t=>.cons (RV.mono hm h) (RVL.mono hm t)
end
mutual
theorem RV.ofVal (μ:Mu):∀ {u:Value} {v:V},ofVal u=some v→RV μ v u
 | .bool b,_,h=>by simp only [Am.ofVal,Option.some.injEq] at h;subst h;exact .bool b
 | .int k n,_,h=>by simp only [Am.ofVal,Option.some.injEq] at h;subst h;exact .int k n
 | .string ⟨⟨s⟩⟩,_,h=>by simp only [Am.ofVal,Option.some.injEq] at h;subst h;exact .str s
 | .pointer none,_,h=>by simp only [Am.ofVal,Option.some.injEq] at h;subst h;exact .nilPtr
 | .pointer (some _),_,h=>by simp [Am.ofVal] at h
 | .slice none 0 0,_,h=>by simp only [Am.ofVal,Option.some.injEq] at h;subst h;exact .nilSlice
 | .slice none 0 (_+1),_,h=>by simp [Am.ofVal] at h
 | .slice none (_+1) _,_,h=>by simp [Am.ofVal] at h
 | .slice (some _) _ _,_,h=>by simp [Am.ofVal] at h
 | .map none,_,h=>by simp only [Am.ofVal,Option.some.injEq] at h;subst h;exact .nilMap
 | .map (some _),_,h=>by simp [Am.ofVal] at h
 | .nilFunc,_,h=>by simp only [Am.ofVal,Option.some.injEq] at h;subst h;exact .nilFunc
 | .nilIface,_,h=>by simp only [Am.ofVal,Option.some.injEq] at h;subst h;exact .nilIface
 | .agg ⟨cs⟩,_,h=>by
   simp only [Am.ofVal,Option.map_eq_some_iff] at h;obtain ⟨xs,h1,rfl⟩:=h;exact .agg (RVL.ofVals μ h1)
 | .tuple ⟨cs⟩,_,h=>by
   simp only [Am.ofVal,Option.map_eq_some_iff] at h;obtain ⟨xs,h1,rfl⟩:=h;exact .tuple (RVL.ofVals μ h1)
 | .iface t v,_,h=>by
   simp only [Am.ofVal,Option.map_eq_some_iff] at h;obtain ⟨x,h1,rfl⟩:=h;exact .iface (RV.ofVal μ h1)
 | .float _ _,_,h=>by simp [Am.ofVal] at h
 | .complex _ _ _,_,h=>by simp [Am.ofVal] at h
 | .chan _,_,h=>by simp [Am.ofVal] at h
 | .func _ _ _,_,h=>by simp [Am.ofVal] at h
theorem RVL.ofVals (μ:Mu):∀ {us:List Value} {vs:List V},ofVals us=some vs→RVL μ vs us
 | [],_,h=>by simp only [Am.ofVals,Option.some.injEq] at h;subst h;exact .nil
 | u::us,_,h=>by
   simp only [Am.ofVals] at h;split at h
   ·cases h
   ·rename_i x hx;split at h
    ·cases h
    ·rename_i xs hxs;simp only [Option.some.injEq] at h;subst h;exact .cons (RV.ofVal μ hx) (RVL.ofVals μ hxs)
end
theorem RVL.length {μ:Mu}:∀ {vs:List V} {us:List Value},RVL μ vs us→us.length=vs.length
 | _,_,.nil=>rfl
 | _,_,.cons _ t=>by simp [RVL.length t]
theorem RVL.get {μ:Mu}:∀ {vs:List V} {us:List Value},RVL μ vs us→∀ {i:Nat} {v:V},vs[i]?=some v→∃ u,us[i]?=some u∧RV μ v u
 | _,_,.nil,i,v,h=>by simp at h
 | _,_,.cons (u:=u) h t,0,v,e=>by simp at e;subst e;exact ⟨u,rfl,h⟩
 | _,_,.cons h t,i+1,v,e=>by simp at e;simpa using t.get e
theorem RVL.of_get {μ:Mu}:∀ {vs:List V} {us:List Value},us.length=vs.length→(∀ (i:Nat) (v:V),vs[i]?=some v→∃ u,us[i]?=some u∧RV μ v u)→RVL μ vs us
 | [],[],_,_=>.nil
 | [],_::_,h,_=>by simp at h
 | _::_,[],h,_=>by simp at h
 | v::vs,u::us,h,f=>by
   obtain ⟨u',e,r⟩:=f 0 v rfl;simp at e;subst e;exact .cons r (RVL.of_get (by simpa using h) fun i v' hv=>by simpa using f (i+1) v' (by simpa using hv))
theorem RVL.append {μ:Mu}:∀ {as bs:List V} {as' bs':List Value},RVL μ as as'→RVL μ bs bs'→RVL μ (as++bs) (as'++bs')
 | _,_,_,_,.nil,h=>h
 | _,_,_,_,.cons h t,k=>.cons h (t.append k)
theorem RVL.take {μ:Mu}:∀ {as:List V} {as':List Value} (n:Nat),RVL μ as as'→RVL μ (as.take n) (as'.take n)
 | _,_,0,_=>by simpa using RVL.nil
 | _,_,n+1,.nil=>by simpa using RVL.nil
 | _,_,n+1,.cons h t=>.cons h (t.take n)
theorem RVL.drop {μ:Mu}:∀ {as:List V} {as':List Value} (n:Nat),RVL μ as as'→RVL μ (as.drop n) (as'.drop n)
 | _,_,0,h=>h
 | _,_,n+1,.nil=>by simpa using RVL.nil
 | _,_,n+1,.cons h t=>t.drop n
/-! ### Temporaries -/
structure TsR (μ:Mu) (s:Ts) (a:Array Value):Prop where
 size:a.size=s.n
 get:∀ i,RV μ (s.get i) (a.getD i Go.undef)
theorem TsR.mono {μ μ':Mu} (hm:∀ l x,μ l=some x→μ' l=some x) {s:Ts} {a:Array Value} (h:TsR μ s a):TsR μ' s a:=⟨h.size,fun i=>(h.get i).mono hm⟩
theorem TsR.put {μ:Mu} {s:Ts} {a:Array Value} (h:TsR μ s a) {v:V} {u:Value} (hv:RV μ v u) (i:Nat):TsR μ (s.put i v) (a.setIfInBounds i u):=by
 refine ⟨by simp [h.size],fun j=>?_⟩;rw [Ts.get_put]
 by_cases e:i=j∧i<s.n
 ·obtain ⟨rfl,hi⟩:=e;rw [if_pos ⟨rfl,hi⟩,Array.getD_eq_getD_getElem?,Array.getElem?_setIfInBounds,if_pos rfl,if_pos (by rw [h.size];exact hi)];exact hv
 ·rw [if_neg e,Array.getD_eq_getD_getElem?,Array.getElem?_setIfInBounds];have hj:=h.get j;rw [Array.getD_eq_getD_getElem?] at hj
  by_cases e2:i=j
  ·subst e2;have:¬ i<a.size:=by rw [h.size];exact fun h'=>e ⟨rfl,h'⟩
   rw [if_pos rfl,if_neg this];rw [Array.getElem?_eq_none (by omega)] at hj;exact hj
  ·rw [if_neg e2];exact hj
inductive DR (μ:Mu):D→Deferred→Prop
 | fn {f:FuncId} {args:List V} {as cap:List Value} (h:RVL μ args (as++cap)):DR μ (.fn f args) { target:=.fn (.func f) ⟨cap⟩,args:=⟨as⟩ }
 | collected {r b x y:Nat} (h:μ r=some (b,x,y)):DR μ (.collected r) { target:=.collected b,args:=#[] }
inductive DRL (μ:Mu):List D→List Deferred→Prop
 | nil:DRL μ [] []
 | cons {d:D} {e:Deferred} {ds:List D} {es:List Deferred} (h:DR μ d e) (t:DRL μ ds es):DRL μ (d::ds) (e::es)
theorem DR.mono {μ μ':Mu} (hm:∀ l x,μ l=some x→μ' l=some x) {d:D} {e:Deferred}:DR μ d e→DR μ' d e
 | .fn h=>.fn (h.mono hm)
 | .collected h=>.collected (hm _ _ h)
theorem DRL.mono {μ μ':Mu} (hm:∀ l x,μ l=some x→μ' l=some x):∀ {ds:List D} {es:List Deferred},DRL μ ds es→DRL μ' ds es
 | _,_,.nil=>.nil
 | _,_,.cons h t=>.cons (h.mono hm) (t.mono hm)
theorem DRL.append {μ:Mu}:∀ {as bs:List D} {as' bs':List Deferred},DRL μ as as'→DRL μ bs bs'→DRL μ (as++bs) (as'++bs')
 | _,_,_,_,.nil,h=>h
 | _,_,_,_,.cons h t,k=>.cons h (t.append k)
structure AR (μ:Mu) (a:A) (x:Act):Prop where
 tmps:TsR μ a.tmps x.tmps
 defers:DRL μ a.defers x.defers
theorem AR.mono {μ μ':Mu} (hm:∀ l x,μ l=some x→μ' l=some x) {a:A} {x:Act} (h:AR μ a x):AR μ' a x:=⟨h.tmps.mono hm,h.defers.mono hm⟩
theorem AR.put {μ:Mu} {a:A} {x:Act} (h:AR μ a x) {v:V} {u:Value} (hv:RV μ v u) (d:Option Tmp):AR μ (a.put d v) (x.put d u):=by
 cases d with
 | none=>exact h
 | some d=>exact ⟨h.tmps.put hv d,h.defers⟩
theorem AR.eval {μ:Mu} {a:A} {x:Act} (h:AR μ a x) {o:Operand} {v:V} (he:a.eval o=some v):RV μ v (x.eval o):=by
 cases o with
 | tmp t=>simp only [A.eval,Option.some.injEq] at he;subst he;exact h.tmps.get t
 | const c=>exact RV.ofVal μ he
 | global g=>simp [A.eval] at he
 | func f=>simp only [A.eval,Option.some.injEq] at he;subst he;exact .func .nil .nil
theorem AR.evals {μ:Mu} {a:A} {x:Act} (h:AR μ a x):∀ {os:List Operand} {vs:List V},evals a os=some vs→RVL μ vs (os.map x.eval)
 | [],_,e=>by simp only [Am.evals,Option.some.injEq] at e;subst e;exact .nil
 | o::os,_,e=>by
   simp only [Am.evals] at e;split at e
   ·cases e
   ·rename_i v hv;split at e
    ·cases e
    ·rename_i vs hvs;simp only [Option.some.injEq] at e;subst e;exact .cons (h.eval hv) (h.evals hvs)
/-! ### Objects and the heap -/
inductive MR (μ:Mu):List (V×V)→List MapEntry→Prop
 | nil:MR μ [] []
 | cons {k v:V} {e:MapEntry} {es:List (V×V)} {fs:List MapEntry} (hk:RV μ k e.key) (hv:RV μ v e.val) (t:MR μ es fs):MR μ ((k,v)::es) (e::fs)
theorem MR.mono {μ μ':Mu} (hm:∀ l x,μ l=some x→μ' l=some x):∀ {es:List (V×V)} {fs:List MapEntry},MR μ es fs→MR μ' es fs
 | _,_,.nil=>.nil
 | _,_,.cons hk hv t=>.cons (hk.mono hm) (hv.mono hm) (t.mono hm)
theorem MR.length {μ:Mu}:∀ {es:List (V×V)} {fs:List MapEntry},MR μ es fs→fs.length=es.length
 | _,_,.nil=>rfl
 | _,_,.cons _ _ t=>by simp [MR.length t]
structure CellsR (μ:Mu) (ro:Bool) (vs:List V) (base tot:Nat) (cs:Array Value) (fr:Nat×Nat):Prop where
 len:base+vs.length≤tot
 room:tot≤cs.size
 cell:∀ (j:Nat) (v:V),vs[j]?=some v→∃ u,cs[base+j]?=some u∧RV μ v u
 free:ro=false→fr.1=fr.2∨(bytesOk=true∧cs.size≤fr.1)
theorem CellsR.thaw {μ:Mu} {ro:Bool} {vs:List V} {base tot:Nat} {cs:Array Value} {fr:Nat×Nat} (h:CellsR μ ro vs base tot cs fr) (hro:ro=false) {j:Nat} (hj:j<tot):(decide (fr.1≤j) && decide (j<fr.2))=false:=by
 have h1:=h.room;rcases h.free hro with h2 | h2 <;> simp <;> omega
def ObjR (μ:Mu) (w:World) (l:Nat):O→Prop
 | .cells ro vs=>∃ b base tot cs ty fr,μ l=some (b,base,tot)∧w.heap[b]?=some (.cells cs ty fr)∧CellsR μ ro vs base tot cs fr
 | .stale=>True
 | .map es=>∃ b x y fs clock,μ l=some (b,x,y)∧w.heap[b]?=some (.map fs clock)∧MR μ es fs.toList
 | .loop st p _ tmps ps as bo ds=>∃ b x y r db x' y',μ l=some (b,x,y)∧w.heap[b]?=some (.loop r)∧r.state=st∧r.pending=p∧TsR μ tmps r.tmps ∧
   r.params.toList=ps∧r.assign=as∧r.body=bo∧μ ds=some (db,x',y')∧r.defers=db
 | .deferred ds=>∃ b x y,μ l=some (b,x,y)∧w.heap[b]?=some (.deferred (ds.map fun _=>[]))∧∀ z,ds=some z→z=[]
def O.live:O→Bool
 | .stale=>false
 | _=>true
def O.own:O→Bool
 | .stale=>false
 | .cells ro _=>!ro
 | _=>true
theorem O.live_of_own {o:O} (h:o.own=true):o.live=true:=by cases o <;> simp_all [O.own,O.live]
theorem ObjR.mono {μ μ':Mu} {w w':World} {l:Nat} {o:O} (hm:∀ l x,μ l=some x→μ' l=some x)
  (hb:∀ b x y,μ l=some (b,x,y)→o.live=true→w'.heap[b]?=w.heap[b]?) (h:ObjR μ w l o):ObjR μ' w' l o:=by
 cases o with
 | cells ro vs =>
   obtain ⟨b,base,tot,cs,ty,fr,h1,h2,h3⟩:=h;exact ⟨b,base,tot,cs,ty,fr,hm _ _ h1,(hb _ _ _ h1 rfl).trans h2,⟨h3.len,h3.room,fun j v hv=>let ⟨u,e,r⟩:=h3.cell j v hv;⟨u,e,r.mono hm⟩,h3.free⟩⟩
 | stale=>trivial
 | map es =>
   obtain ⟨b,x,y,fs,clock,h1,h2,h3⟩:=h;exact ⟨b,x,y,fs,clock,hm _ _ h1,(hb _ _ _ h1 rfl).trans h2,h3.mono hm⟩
 | loop st p fn tmps ps as bo ds =>
   obtain ⟨b,x,y,r,db,x',y',h1,h2,h3,h4,h5,h6,h7,h8,h9,h10⟩:=h;exact ⟨b,x,y,r,db,x',y',hm _ _ h1,(hb _ _ _ h1 rfl).trans h2,h3,h4,h5.mono hm,h6,h7,h8,hm _ _ h9,h10⟩
 | deferred ds =>
   obtain ⟨b,x,y,h1,h2,h3⟩:=h;exact ⟨b,x,y,hm _ _ h1,(hb _ _ _ h1 rfl).trans h2,h3⟩
theorem ObjR.block {μ:Mu} {w:World} {l:Nat} {o:O} (h:ObjR μ w l o) (hl:o.live=true):∃ b x y,μ l=some (b,x,y)∧b<w.heap.size:=by
 have key:∀ {b:Nat} {z:Obj},w.heap[b]?=some z→b<w.heap.size:=fun {b z} e=>by
  rcases Nat.lt_or_ge b w.heap.size with h' | h'
  ·exact h'
  ·rw [Array.getElem?_eq_none h'] at e;cases e
 cases o with
 | cells ro vs=>obtain ⟨b,base,tot,cs,ty,fr,h1,h2,_⟩:=h;exact ⟨b,base,tot,h1,key h2⟩
 | stale=>simp [O.live] at hl
 | map es=>obtain ⟨b,x,y,fs,clock,h1,h2,_⟩:=h;exact ⟨b,x,y,h1,key h2⟩
 | loop st p fn tmps ps as bo ds=>obtain ⟨b,x,y,r,db,x',y',h1,h2,_⟩:=h;exact ⟨b,x,y,h1,key h2⟩
 | deferred ds=>obtain ⟨b,x,y,h1,h2,_⟩:=h;exact ⟨b,x,y,h1,key h2⟩
structure Sim (μ:Mu) (H:Heap) (w:World):Prop where
 obj:∀ l o,H.get l=some o→ObjR μ w l o
 inj:∀ l l' o o' b x y b' x' y',H.get l=some o→H.get l'=some o'→o.own=true→o'.live=true→μ l=some (b,x,y)→μ l'=some (b',x',y')→b=b'→l=l'
 dom:∀ l x,μ l=some x→l<H.n
def Owned (μ:Mu) (H:Heap) (b:Nat):Prop:=∃ l o x y,H.get l=some o∧o.own=true∧μ l=some (b,x,y)
def Live (μ:Mu) (H:Heap) (b:Nat):Prop:=∃ l o x y,H.get l=some o∧o.live=true∧μ l=some (b,x,y)
theorem Owned.live {μ:Mu} {H:Heap} {b:Nat}:Owned μ H b→Live μ H b:=fun ⟨l,o,x,y,h1,h2,h3⟩=>⟨l,o,x,y,h1,O.live_of_own h2,h3⟩
structure Post (μ:Mu) (H:Heap) (w:World) (μ':Mu) (H':Heap) (w':World):Prop where
 sim:Sim μ' H' w'
 os:w'.os=w.os
 tape:w'.tape=w.tape
 output:w'.output=w.output
 size:w.heap.size≤w'.heap.size
 n:H.n≤H'.n
 agree:∀ l,l<H.n→μ' l=μ l
 kept:∀ b,b<w.heap.size→¬ Owned μ H b→w'.heap[b]?=w.heap[b]?
 own:∀ b,b<w.heap.size→Owned μ' H' b→Owned μ H b
 live:∀ b,b<w.heap.size→Live μ' H' b→Live μ H b
 hole:∀ l,l<H.n→H.get l=none→H'.get l=none
theorem Post.refl {μ:Mu} {H:Heap} {w:World} (h:Sim μ H w):Post μ H w μ H w:=
 ⟨h,rfl,rfl,rfl,Nat.le_refl _,Nat.le_refl _,fun _ _=>rfl,fun _ _ _=>rfl,fun _ _ h=>h,fun _ _ h=>h,fun _ _ h=>h⟩
theorem Post.trans {μ μ1 μ2:Mu} {H H1 H2:Heap} {w w1 w2:World} (p:Post μ H w μ1 H1 w1) (q:Post μ1 H1 w1 μ2 H2 w2):Post μ H w μ2 H2 w2:=
 ⟨q.sim,q.os.trans p.os,q.tape.trans p.tape,q.output.trans p.output,Nat.le_trans p.size q.size,Nat.le_trans p.n q.n,
  fun l hl=>(q.agree l (Nat.lt_of_lt_of_le hl p.n)).trans (p.agree l hl),
  fun b hb hn=>(q.kept b (Nat.lt_of_lt_of_le hb p.size) fun ho=>hn (p.own b hb ho)).trans (p.kept b hb hn),
  fun b hb ho=>p.own b hb (q.own b (Nat.lt_of_lt_of_le hb p.size) ho),
  fun b hb ho=>p.live b hb (q.live b (Nat.lt_of_lt_of_le hb p.size) ho),
  fun l hl e=>q.hole l (Nat.lt_of_lt_of_le hl p.n) (p.hole l hl e)⟩
theorem Post.ext {μ μ':Mu} {H H':Heap} {w w':World} (hs:Sim μ H w) (p:Post μ H w μ' H' w'):∀ l x,μ l=some x→μ' l=some x:=
 fun l x h=>(p.agree l (hs.dom l x h)).trans h
theorem Sim.drawn {μ:Mu} {H:Heap} {w:World} (h:Sim μ H w) (n:Nat):Sim μ H { w with drawn:=n }:=
 ⟨fun l o e=>(h.obj l o e).mono (fun _ _ k=>k) fun _ _ _ _ _=>rfl,h.inj,h.dom⟩
theorem Post.drawn {μ:Mu} {H:Heap} {w:World} (h:Sim μ H w) (n:Nat):Post μ H w μ H { w with drawn:=n }:=
 ⟨h.drawn n,rfl,rfl,rfl,Nat.le_refl _,Nat.le_refl _,fun _ _=>rfl,fun _ _ _=>rfl,fun _ _ h=>h,fun _ _ h=>h,fun _ _ h=>h⟩
def upd (μ:Mu) (l:Nat) (x:Nat×Nat×Nat):Mu:=fun k=>if k=l then some x else μ k
theorem upd_ext {μ:Mu} {H:Heap} {w:World} (h:Sim μ H w) (x:Nat×Nat×Nat):∀ l y,μ l=some y→upd μ H.n x l=some y:=by
 intro l y e;have:=h.dom l y e;simp only [upd];rw [if_neg (by omega)];exact e
theorem upd_same (μ:Mu) (l:Nat) (x:Nat×Nat×Nat):upd μ l x l=some x:=by simp [upd]
theorem upd_other {μ:Mu} {l k:Nat} (x:Nat×Nat×Nat) (h:k≠l):upd μ l x k=μ k:=by simp [upd,h]
theorem Post.alloc {μ:Mu} {H:Heap} {w:World} (h:Sim μ H w) {o:O} {z:Obj} {x y:Nat}
  (ho:ObjR (upd μ H.n (w.heap.size,x,y)) (w.alloc z) H.n o):Post μ H w (upd μ H.n (w.heap.size,x,y)) (H.push o) (w.alloc z):=by
 have hext:=upd_ext h (w.heap.size,x,y);have hold:∀ k,k<w.heap.size→(w.alloc z).heap[k]?=w.heap[k]?:=fun k hk=>RowKit.Below.heap_alloc w z k hk
 have hblk:∀ l o',H.get l=some o'→o'.live=true→∀ b x' y',μ l=some (b,x',y')→b<w.heap.size:=by
  intro l o' e hl b x' y' e2;obtain ⟨b1,x1,y1,e3,hlt⟩:=(h.obj l o' e).block hl;rw [e2] at e3;cases e3;exact hlt
 refine ⟨⟨?_,?_,?_⟩,rfl,rfl,rfl,by simp,by simp,fun l hl=>upd_other _ (by omega),fun b hb _=>hold b hb,?_,?_,fun l hl e=>by rw [Heap.get_push,if_neg (by omega)];exact e⟩
 ·intro l o' e;rw [Heap.get_push] at e;split at e
  ·rename_i e2;subst e2;cases e;exact ho
  ·exact (h.obj l o' e).mono hext fun b x' y' e2 hl=>hold b (hblk l o' e hl b x' y' e2)
 ·intro l l' o1 o2 b x1 y1 b' x2 y2 e1 e2 ho1 ho2 m1 m2 hbb;rw [Heap.get_push] at e1 e2;split at e1
  ·rename_i el;subst el;rw [upd_same] at m1;cases m1;split at e2
   ·rename_i el2;exact el2.symm
   ·rename_i el2;rw [upd_other _ el2] at m2;have:=hblk l' o2 e2 ho2 b' x2 y2 m2;omega
  ·rename_i el;rw [upd_other _ el] at m1;have hb1:=hblk l o1 e1 (O.live_of_own ho1) b x1 y1 m1;split at e2
   ·rename_i el2;subst el2;rw [upd_same] at m2;cases m2;omega
   ·rename_i el2;rw [upd_other _ el2] at m2;exact h.inj l l' o1 o2 b x1 y1 b' x2 y2 e1 e2 ho1 ho2 m1 m2 hbb
 ·intro l x' e
  by_cases el:l=H.n
  ·subst el;simp
  ·rw [upd_other _ el] at e;have:=h.dom l x' e;simp;omega
 ·intro b hb ⟨l,o',x',y',e1,e2,e3⟩;rw [Heap.get_push] at e1;split at e1
  ·rename_i el;subst el;rw [upd_same] at e3;cases e3;omega
  ·rename_i el;rw [upd_other _ el] at e3;exact ⟨l,o',x',y',e1,e2,e3⟩
 ·intro b hb ⟨l,o',x',y',e1,e2,e3⟩;rw [Heap.get_push] at e1;split at e1
  ·rename_i el;subst el;rw [upd_same] at e3;cases e3;omega
  ·rename_i el;rw [upd_other _ el] at e3;exact ⟨l,o',x',y',e1,e2,e3⟩
theorem Post.turn {μ:Mu} {H:Heap} {w:World} (h:Sim μ H w) {l:Nat} {o o':O} {b x y:Nat} (hl:H.get l=some o) (hown:o.own=true)
  (hm:μ l=some (b,x,y)) (z:Obj) (ho:ObjR μ (w.putObj b z) l o'):Post μ H w μ (H.put l o') (w.putObj b z):=by
 have hlt:=Heap.lt hl;refine ⟨⟨?_,?_,?_⟩,rfl,rfl,rfl,by simp,by simp,fun _ _=>rfl,?_,?_,?_,fun k hk e=>by rw [Heap.get_put hlt,if_neg (fun ek=>by rw [ek,hl] at e;cases e)];exact e⟩
 ·intro k ok e;rw [Heap.get_put hlt] at e;split at e
  ·rename_i ek;subst ek;cases e;exact ho
  ·rename_i ek;refine (h.obj k ok e).mono (fun _ _ q=>q) fun b' x' y' m' hlive=>World.putObj_heap_other fun eb=>ek ?_;exact (h.inj l k o ok b x y b' x' y' hl e hown hlive hm m' eb.symm).symm
 ·intro k k' o1 o2 b1 x1 y1 b2 x2 y2 e1 e2 ho1 ho2 m1 m2 hbb;rw [Heap.get_put hlt] at e1 e2;split at e1
  ·rename_i ek;subst ek;split at e2
   ·rename_i ek2;exact ek2.symm
   ·exact h.inj k k' o o2 b1 x1 y1 b2 x2 y2 hl e2 hown ho2 m1 m2 hbb
  ·split at e2
   ·rename_i ek2;subst ek2;exact h.inj k k' o1 o b1 x1 y1 b2 x2 y2 e1 hl ho1 (O.live_of_own hown) m1 m2 hbb
   ·exact h.inj k k' o1 o2 b1 x1 y1 b2 x2 y2 e1 e2 ho1 ho2 m1 m2 hbb
 ·intro k x' e;simpa using h.dom k x' e
 ·intro b' _ hn;exact World.putObj_heap_other fun e=>hn ⟨l,o,x,y,hl,hown,e ▸ hm⟩
 ·intro b' _ ⟨k,ok,x',y',e1,e2,e3⟩;rw [Heap.get_put hlt] at e1;split at e1
  ·rename_i ek;subst ek;exact ⟨k,o,x',y',hl,hown,e3⟩
  ·exact ⟨k,ok,x',y',e1,e2,e3⟩
 ·intro b' _ ⟨k,ok,x',y',e1,e2,e3⟩;rw [Heap.get_put hlt] at e1;split at e1
  ·rename_i ek;subst ek;exact ⟨k,o,x',y',hl,O.live_of_own hown,e3⟩
  ·exact ⟨k,ok,x',y',e1,e2,e3⟩
theorem Post.retire {μ:Mu} {H:Heap} {w:World} (h:Sim μ H w) {l:Nat} {o:O} (hl:H.get l=some o):Post μ H w μ (H.put l .stale) w:=by
 have hlt:=Heap.lt hl;refine ⟨⟨?_,?_,?_⟩,rfl,rfl,rfl,Nat.le_refl _,by simp,fun _ _=>rfl,fun _ _ _=>rfl,?_,?_,fun k hk e=>by rw [Heap.get_put hlt,if_neg (fun ek=>by rw [ek,hl] at e;cases e)];exact e⟩
 ·intro k ok e;rw [Heap.get_put hlt] at e;split at e
  ·cases e;trivial
  ·exact h.obj k ok e
 ·intro k k' o1 o2 b1 x1 y1 b2 x2 y2 e1 e2 ho1 ho2 m1 m2 hbb;rw [Heap.get_put hlt] at e1 e2;split at e1
  ·cases e1;simp [O.own] at ho1
  ·split at e2
   ·cases e2;simp [O.live] at ho2
   ·exact h.inj k k' o1 o2 b1 x1 y1 b2 x2 y2 e1 e2 ho1 ho2 m1 m2 hbb
 ·intro k x' e;simpa using h.dom k x' e
 ·intro b' _ ⟨k,ok,x',y',e1,e2,e3⟩;rw [Heap.get_put hlt] at e1;split at e1
  ·cases e1;simp [O.own] at e2
  ·exact ⟨k,ok,x',y',e1,e2,e3⟩
 ·intro b' _ ⟨k,ok,x',y',e1,e2,e3⟩;rw [Heap.get_put hlt] at e1;split at e1
  ·cases e1;simp [O.live] at e2
  ·exact ⟨k,ok,x',y',e1,e2,e3⟩
theorem Post.regrow {μ:Mu} {H:Heap} {w:World} (h:Sim μ H w) {l:Nat} {o o':O} {b x y x' y':Nat} (hl:H.get l=some o) (hown:o.own=true)
  (hm:μ l=some (b,x,y)) (z:Obj) (ho:ObjR (upd μ H.n (b,x',y')) (w.putObj b z) H.n o') :
  Post μ H w (upd μ H.n (b,x',y')) ((H.put l .stale).push o') (w.putObj b z):=by
 have hlt:=Heap.lt hl;have hext:=upd_ext h (b,x',y')
 have hget:∀ k ok,((H.put l .stale).push o').get k=some ok→(k=H.n∧ok=o')∨(k≠H.n∧k=l∧ok=.stale)∨(k≠H.n∧k≠l∧H.get k=some ok):=by
  intro k ok e;rw [Heap.get_push,Heap.n_put] at e;split at e
  ·rename_i ek;cases e;exact .inl ⟨ek,rfl⟩
  ·rename_i ek;rw [Heap.get_put hlt] at e;split at e
   ·rename_i ek2;cases e;exact .inr (.inl ⟨ek,ek2,rfl⟩)
   ·rename_i ek2;exact .inr (.inr ⟨ek,ek2,e⟩)
 refine ⟨⟨?_,?_,?_⟩,rfl,rfl,rfl,by simp,by simp,fun k hk=>upd_other _ (by omega),?_,?_,?_,fun k hk e=>by rw [Heap.get_push,Heap.n_put,if_neg (by omega),Heap.get_put hlt,if_neg (fun ek=>by rw [ek,hl] at e;cases e)];exact e⟩
 ·intro k ok e;rcases hget k ok e with ⟨rfl,rfl⟩ | ⟨_,_,rfl⟩ | ⟨_,ek,e'⟩
  ·exact ho
  ·trivial
  ·exact (h.obj k ok e').mono hext fun b' x1 y1 m' hlive=>World.putObj_heap_other fun eb=>ek (h.inj l k o ok b x y b' x1 y1 hl e' hown hlive hm m' eb.symm).symm
 ·intro k k' o1 o2 b1 x1 y1 b2 x2 y2 e1 e2 ho1 ho2 m1 m2 hbb;rcases hget k o1 e1 with ⟨rfl,rfl⟩ | ⟨_,_,rfl⟩ | ⟨en,ek,e1'⟩
  ·rcases hget k' o2 e2 with ⟨rfl,rfl⟩ | ⟨_,_,rfl⟩ | ⟨en2,ek2,e2'⟩
   ·rfl
   ·simp [O.live] at ho2
   ·rw [upd_same] at m1;cases m1;rw [upd_other _ en2] at m2;exact absurd (h.inj l k' o o2 _ x y b2 x2 y2 hl e2' hown ho2 hm m2 hbb).symm ek2
  ·simp [O.own] at ho1
  ·rw [upd_other _ en] at m1;rcases hget k' o2 e2 with ⟨rfl,rfl⟩ | ⟨_,_,rfl⟩ | ⟨en2,ek2,e2'⟩
   ·rw [upd_same] at m2;cases m2;exact absurd (h.inj k l o1 o b1 x1 y1 _ x y e1' hl ho1 (O.live_of_own hown) m1 hm hbb) ek
   ·simp [O.live] at ho2
   ·rw [upd_other _ en2] at m2;exact h.inj k k' o1 o2 b1 x1 y1 b2 x2 y2 e1' e2' ho1 ho2 m1 m2 hbb
 ·intro k x1 e
  by_cases el:k=H.n
  ·subst el;simp
  ·rw [upd_other _ el] at e;have:=h.dom k x1 e;simp;omega
 ·intro b' _ hn;exact World.putObj_heap_other fun e=>hn ⟨l,o,x,y,hl,hown,e ▸ hm⟩
 ·intro b' _ ⟨k,ok,x1,y1,e1,e2,e3⟩;rcases hget k ok e1 with ⟨rfl,rfl⟩ | ⟨_,_,rfl⟩ | ⟨en,ek,e1'⟩
  ·rw [upd_same] at e3;cases e3;exact ⟨l,o,x,y,hl,hown,hm⟩
  ·simp [O.own] at e2
  ·rw [upd_other _ en] at e3;exact ⟨k,ok,x1,y1,e1',e2,e3⟩
 ·intro b' _ ⟨k,ok,x1,y1,e1,e2,e3⟩;rcases hget k ok e1 with ⟨rfl,rfl⟩ | ⟨_,_,rfl⟩ | ⟨en,ek,e1'⟩
  ·rw [upd_same] at e3;cases e3;exact ⟨l,o,x,y,hl,O.live_of_own hown,hm⟩
  ·simp [O.live] at e2
  ·rw [upd_other _ en] at e3;exact ⟨k,ok,x1,y1,e1',e2,e3⟩
end Go.Am

set_option linter.unusedSimpArgs false
namespace Go.Am
open Go
variable {P:Program} {μ:Mu} {H:Heap} {w:World}
theorem run_und {t:TypeId} {d:TypeDesc} (h:P.underlying t=some d):(underlying t).run P w=.ok d w:=by
 simp [underlying,Sem.run_bind,Result.andThen,program,Sem.run,h,pure]
theorem run_info {t:TypeId} {i:TypeInfo} (h:P.info? t=some i):(typeInfo t).run P w=.ok i w:=by
 simp [typeInfo,Sem.run_bind,Result.andThen,program,Sem.run,h,pure]
theorem run_size {t:TypeId} {i:TypeInfo} (h:P.info? t=some i):(sizeOf t).run P w=.ok i.size w:=by
 simp [Go.sizeOf,Sem.run_bind,Result.andThen,run_info h]
theorem run_zero {t:TypeId} {i:TypeInfo} {z:Value} (h:P.info? t=some i) (hz:i.zero=some z):(zeroValue t).run P w=.ok z w:=by
 simp [zeroValue,Sem.run_bind,Result.andThen,run_info h,hz]
structure TabOk (P:Program) (T:Tab):Prop where
 und:∀ t d,T.und t=some d→P.underlying t=some d
 size:∀ t n b,T.size t=some (n,b)→∃ i,P.info? t=some i∧i.size=n∧i.bytes=b
 zero:∀ t zs,T.zero t=some zs→∃ i z,P.info? t=some i∧i.zero=some z∧∀ μ,RVL μ zs z.cells.toList
 zeroV:∀ t v,T.zeroV t=some v→∃ i z,P.info? t=some i∧i.zero=some z∧∀ μ,RV μ v z
 eqS:∀ t xs ys r,T.eqS t xs ys=some r→P.eqGuardType P.depth t=false∧∀ (μ:Mu) (w:World) (us vs:List Value),RVL μ xs us→RVL μ ys vs →
  (Op.equal t (.agg ⟨us⟩) (.agg ⟨vs⟩)).run P w=.ok r w
 meth:∀ t name path f b,T.meth t name=some (path,f,b)→∃ i m,P.info? t=some i∧i.methods.find? (·.name == name)=some m∧m.path.toList=path∧m.func=some (f,b)
 func : ∀ f fn, T.func f = some fn → P.funcs[f]? = some fn ∧ (fn.name == "runtime.NumGoroutine") = false
variable {T:Tab}
theorem run_agg (hT:TabOk P T) {t:TypeId} {b:Bool} (h:isAgg? T t=some b):(isAgg t).run P w=.ok b w:=by
 unfold isAgg? at h;split at h <;> first | (rename_i hd;cases h;simp [Go.isAgg,Sem.run_bind,Result.andThen,run_und (hT.und _ _ hd)]) | (cases h)
theorem add_eq (b off n:Nat):Addr.add ⟨b,off,none⟩ n=⟨b,off+n,none⟩:=by
 unfold Addr.add;split <;> simp_all
theorem cell_eq {b:Nat} {cs:Array Value} {ty:TypeId} {fr:Nat×Nat} (h:w.heap[b]?=some (.cells cs ty fr)) (off:Nat):w.cell? ⟨b,off,none⟩=cs[off]?:=by
 simp [World.cell?,h]
theorem frozen_eq {b:Nat} {cs:Array Value} {ty:TypeId} {fr:Nat×Nat} (h:w.heap[b]?=some (.cells cs ty fr)) (off:Nat):w.frozen? ⟨b,off,none⟩=(decide (fr.1≤off) && decide (off<fr.2)):=by
 obtain ⟨lo,hi⟩:=fr;simp [World.frozen?,h]
theorem setCell_eq {b:Nat} {cs:Array Value} {ty:TypeId} {fr:Nat×Nat} (h:w.heap[b]?=some (.cells cs ty fr)) (off:Nat) (v:Value) :
  w.setCell ⟨b,off,none⟩ v=w.putObj b (.cells (cs.setIfInBounds off v) ty fr):=by
 unfold World.setCell World.putObj
 congr 1
 apply Array.ext_getElem?;intro i;rw [Array.getElem?_modify,Array.getElem?_setIfInBounds]
 by_cases e:b=i
 ·subst e
  have hb:b<w.heap.size:=by
   rcases Nat.lt_or_ge b w.heap.size with h' | h'
   ·exact h'
   ·rw [Array.getElem?_eq_none h'] at h;cases h
  rw [Array.getElem?_eq_getElem hb] at h;simp only [Option.some.injEq] at h;simp [h,hb]
 ·simp [e]
theorem freeze_eq {b:Nat} {cs:Array Value} {ty:TypeId} {fr:Nat×Nat} (h:w.heap[b]?=some (.cells cs ty fr)) (off:Nat) :
  w.freeze ⟨b,off,none⟩ 1=w.putObj b (.cells cs ty (if fr.1 == fr.2 then (off,off+1) else (min fr.1 off,max fr.2 (off+1)))):=by
 unfold World.freeze World.putObj;rw [if_neg (by omega)]
 congr 1
 apply Array.ext_getElem?;intro i;rw [Array.getElem?_modify,Array.getElem?_setIfInBounds]
 by_cases e:b=i
 ·subst e
  have hb:b<w.heap.size:=by
   rcases Nat.lt_or_ge b w.heap.size with h' | h'
   ·exact h'
   ·rw [Array.getElem?_eq_none h'] at h;cases h
  rw [Array.getElem?_eq_getElem hb] at h;simp only [Option.some.injEq] at h;obtain ⟨lo,hi⟩:=fr;simp [h,hb]
 ·simp [e]
theorem take?_eq {vs r:List V} {o n:Nat} (h:take? vs o n=some r):r=(vs.drop o).take n∧r.length=n:=by
 unfold take? at h;simp only [cond_beq] at h;split at h
 ·rename_i e;cases h;exact ⟨rfl,e⟩
 ·cases h
theorem take?_get {vs r:List V} {o n:Nat} (h:take? vs o n=some r) (j:Nat) (hj:j<n):r[j]?=vs[o+j]?:=by
 obtain ⟨rfl,_⟩:=take?_eq h;rw [List.getElem?_take_of_lt hj,List.getElem?_drop]
theorem CellsR.take {ro:Bool} {vs:List V} {base tot:Nat} {cs:Array Value} {fr:Nat×Nat} (h:CellsR μ ro vs base tot cs fr) {o n:Nat} {r:List V}
  (ht:take? vs o n=some r):∃ us,us.length=n∧RVL μ r us∧∀ (j:Nat) (u:Value),us[j]?=some u→cs[base+o+j]?=some u:=by
 have hl:=(take?_eq ht).2
 have hcell:∀ j,j<n→∃ v u,r[j]?=some v∧cs[base+o+j]?=some u∧RV μ v u:=by
  intro j hj;have h1:r[j]?=some r[j]:=List.getElem?_eq_getElem (by omega);have h2:=take?_get ht j hj;rw [h1] at h2;obtain ⟨u,hu,hr⟩:=h.cell (o+j) _ h2.symm;exact ⟨_,u,h1,by rw [show base+o+j=base+(o+j) from by omega];exact hu,hr⟩
 refine ⟨(cs.toList.drop (base+o)).take n,?_,?_,?_⟩
 ·simp only [List.length_take,List.length_drop,Array.length_toList];rcases Nat.eq_zero_or_pos n with h0 | h0
  ·omega
  ·obtain ⟨v,u,_,hu,_⟩:=hcell (n - 1) (by omega)
   have:base+o+(n - 1)<cs.size:=by
    rcases Nat.lt_or_ge (base+o+(n - 1)) cs.size with h' | h'
    ·exact h'
    ·rw [Array.getElem?_eq_none h'] at hu;cases hu
   omega
 ·refine RVL.of_get ?_ ?_
  ·rw [hl];simp only [List.length_take,List.length_drop,Array.length_toList];rcases Nat.eq_zero_or_pos n with h0 | h0
   ·omega
   ·obtain ⟨v,u,_,hu,_⟩:=hcell (n - 1) (by omega)
    have:base+o+(n - 1)<cs.size:=by
     rcases Nat.lt_or_ge (base+o+(n - 1)) cs.size with h' | h'
     ·exact h'
     ·rw [Array.getElem?_eq_none h'] at hu;cases hu
    omega
  ·intro j v hv
   have hj:j<n:=by
    rcases Nat.lt_or_ge j n with h' | h'
    ·exact h'
    ·rw [List.getElem?_eq_none (by omega)] at hv;cases hv
   obtain ⟨v',u,h1,h2,h3⟩:=hcell j hj;rw [hv] at h1;cases h1;exact ⟨u,by rw [List.getElem?_take_of_lt hj,List.getElem?_drop];simpa using h2,h3⟩
 ·intro j u hu
  have hj:j<n:=by
   rcases Nat.lt_or_ge j n with h' | h'
   ·exact h'
   ·rw [List.getElem?_take_eq_none h'] at hu;cases hu
  rw [List.getElem?_take_of_lt hj,List.getElem?_drop] at hu;simpa using hu
theorem run_load {a:Addr} {v:Value} (h:w.cell? a=some v):(load a).run P w=.ok v w:=by simp [load,Sem.run,h]
theorem run_loadCellsFrom {b off:Nat}:∀ (us:List Value) (i:Nat) (acc:Array Value),(∀ (j:Nat) (u:Value),us[j]?=some u→w.cell? ⟨b,off+(i+j),none⟩=some u) →
  (loadCellsFrom ⟨b,off,none⟩ i us.length acc).run P w=.ok (acc++us.toArray) w
 | [],i,acc,_=>by simp [loadCellsFrom,Sem.run,pure]
 | u::us,i,acc,h=>by
   have h0:w.cell? ⟨b,off+i,none⟩=some u:=by simpa using h 0 u rfl
   simp only [List.length_cons,loadCellsFrom,Sem.run_bind,add_eq,run_load h0,Result.andThen]
   rw [run_loadCellsFrom us (i+1) (acc.push u) fun j u' hu=>by
    have:=h (j+1) u' (by simpa using hu);rw [show off+(i+1+j)=off+(i+(j+1)) from by omega];exact this]
   simp
theorem run_loadCells {b off:Nat} {us:List Value} (h:∀ (j:Nat) (u:Value),us[j]?=some u→w.cell? ⟨b,off+j,none⟩=some u) :
  (loadCells ⟨b,off,none⟩ us.length).run P w=.ok us.toArray w:=by
 rw [loadCells,run_loadCellsFrom us 0 #[] fun j u hu=>by simpa using h j u hu];simp
theorem Sim.cells (h:Sim μ H w) {l:Nat} {vs:List V} (e:cellsAt H l=some vs) :
  ∃ ro b base tot cs ty fr,H.get l=some (.cells ro vs)∧μ l=some (b,base,tot)∧w.heap[b]?=some (.cells cs ty fr)∧CellsR μ ro vs base tot cs fr:=by
 unfold cellsAt at e;split at e
 ·rename_i ro vs' e1
  cases e
  obtain ⟨b,base,tot,cs,ty,fr,h1,h2,h3⟩:=h.obj l _ e1;exact ⟨ro,b,base,tot,cs,ty,fr,e1,h1,h2,h3⟩
 ·cases e
theorem run_loadVar (hT:TabOk P T) (h:Sim μ H w) {t:TypeId} {l o:Nat} {v:V} (e:loadVar T H t l o=some v) {b base tot:Nat} (hm:μ l=some (b,base,tot)) :
  ∃ u,(Go.loadVar t ⟨b,base+o,none⟩).run P w=.ok u w∧RV μ v u:=by
 unfold Am.loadVar at e;split at e
 ·cases e
 rename_i vs hvs;obtain ⟨ro,b',base',tot',cs,ty,fr,hg,hm',hb,hc⟩:=h.cells hvs;rw [hm] at hm';cases hm';split at e
 ·rename_i hag;split at e
  ·rename_i n by' hsz
   obtain ⟨i,hi,hin,_⟩:=hT.size _ _ _ hsz;simp only [Option.map_eq_some_iff] at e;obtain ⟨r,hr,rfl⟩:=e;obtain ⟨us,hl,hrv,hcs⟩:=hc.take hr;refine ⟨.agg us.toArray,?_,.agg hrv⟩;have:=run_loadCells (P:=P) (w:=w) (b:=b) (off:=base+o) (us:=us) fun j u hu=>by rw [cell_eq hb];exact hcs j u hu
   simp only [Go.loadVar,Sem.run_bind,run_agg hT hag,Result.andThen,if_true,run_size hi,hin];rw [hl] at this;simp [this,Sem.run,pure]
  ·cases e
 ·rename_i hag;obtain ⟨u,hu,hr⟩:=hc.cell o v e;refine ⟨u,?_,hr⟩;simp only [Go.loadVar,Sem.run_bind,run_agg hT hag,Result.andThen];simp only [Bool.false_eq_true,if_false];exact run_load (by rw [cell_eq hb];exact hu)
 ·cases e
/-! ### Writing -/
def overA:Array Value→Nat→List Value→Array Value
 | cs,_,[]=>cs
 | cs,o,v::vs=>overA (cs.setIfInBounds o v) (o+1) vs
@[simp] theorem overA_size:∀ (us:List Value) (cs:Array Value) (o:Nat),(overA cs o us).size=cs.size
  | [],_,_=>rfl
  | _::us,cs,o=>by rw [overA,overA_size us];simp
theorem overA_get:∀ (us:List Value) (cs:Array Value) (o j:Nat),o+us.length≤cs.size→(overA cs o us)[j]?=if o≤j∧j<o+us.length then us[j - o]? else cs[j]?
 | [],cs,o,j,_=>by
   rw [overA,if_neg (by simp)]
 | u::us,cs,o,j,h=>by
   simp only [List.length_cons] at h ⊢;rw [overA,overA_get us _ _ _ (by simp;omega)]
   by_cases e:j=o
   ·subst e;rw [if_neg (by omega),if_pos (by omega),Array.getElem?_setIfInBounds,if_pos rfl,if_pos (by omega)];simp
   ·by_cases e2:o+1≤j∧j<o+1+us.length
    ·rw [if_pos e2,if_pos (by omega),show j - o=(j - (o+1))+1 from by omega];simp
    ·rw [if_neg e2,if_neg (by omega),Array.getElem?_setIfInBounds,if_neg (by omega)]
theorem over_length:∀ (vs:List V) (o:Nat) (cs:List V),(over vs o cs).length=vs.length
 | [],_,_=>by unfold over;split <;> simp_all
 | v::vs,0,[]=>by simp [over]
 | v::vs,0,c::cs=>by simp [over,over_length vs 0 cs]
 | v::vs,o+1,cs=>by simp [over,over_length vs o cs]
theorem over_get:∀ (vs:List V) (o:Nat) (cs:List V) (j:Nat),o+cs.length≤vs.length→(over vs o cs)[j]?=if o≤j∧j<o+cs.length then cs[j - o]? else vs[j]?
 | [],o,cs,j,h=>by
   have h1:cs=[]:=by cases cs <;> simp_all
   have h2:o=0:=by simp at h;omega
   subst h1 h2;simp [over]
 | v::vs,0,[],j,h=>by rw [over,if_neg (by simp)]
 | v::vs,0,c::cs,j,h=>by
   simp only [List.length_cons] at h;rw [over]
   cases j with
   | zero=>simp
   | succ j =>
     rw [List.getElem?_cons_succ,over_get vs 0 cs j (by omega)]
     by_cases e:j<cs.length
     ·rw [if_pos (by omega),if_pos (by simp;omega)];simp
     ·rw [if_neg (by omega),if_neg (by simp;omega)];simp
 | v::vs,o+1,cs,j,h=>by
   simp only [List.length_cons] at h;rw [over]
   cases j with
   | zero=>rw [if_neg (by omega)];simp
   | succ j =>
     rw [List.getElem?_cons_succ,over_get vs o cs j (by omega)]
     by_cases e:o≤j∧j<o+cs.length
     ·rw [if_pos e,if_pos (by omega)];congr 1;omega
     ·rw [if_neg e,if_neg (by omega)];simp
theorem CellsR.over {ro:Bool} {vs:List V} {base tot:Nat} {cs:Array Value} {fr:Nat×Nat} (h:CellsR μ ro vs base tot cs fr) {o:Nat} {as:List V} {us:List Value}
  (ho:o+as.length≤vs.length) (hr:RVL μ as us):CellsR μ ro (Am.over vs o as) base tot (overA cs (base+o) us) fr:=by
 have hul:=hr.length;have h1:=h.len;have h2:=h.room;refine ⟨by rw [over_length];exact h.len,by simpa using h.room,?_,by simpa using h.free⟩;intro j v hv;rw [over_get _ _ _ _ ho] at hv;rw [overA_get _ _ _ _ (by omega)]
 by_cases e:o≤j∧j<o+as.length
 ·rw [if_pos e] at hv;obtain ⟨u,hu,hr'⟩:=hr.get hv;exact ⟨u,by rw [if_pos (by omega),show base+j - (base+o)=j - o from by omega];exact hu,hr'⟩
 ·rw [if_neg e] at hv;obtain ⟨u,hu,hr'⟩:=h.cell j v hv;exact ⟨u,by rw [if_neg (by omega)];exact hu,hr'⟩
theorem RV.one {v:V} {u:Value} (h:RV μ v u) (h1:v.one=true):(∀ c,u≠.agg c)∧(∀ c,u≠.tuple c):=by
 cases h <;> simp_all [V.one]
theorem run_store {a:Addr} {v old:Value} (h1:(∀ c,v≠.agg c)∧(∀ c,v≠.tuple c)) (hc:w.cell? a=some old) (hf:w.frozen? a=false) :
  (store a v).run P w=.ok () (w.setCell a v):=by
 unfold store
 cases v <;> first | (simp [Sem.run,hc,hf];done) | (exact absurd rfl (h1.1 _)) | (exact absurd rfl (h1.2 _))
theorem putObj_self {b:Nat} {z:Obj} (h:w.heap[b]?=some z):w.putObj b z=w:=by
 unfold World.putObj
 have:w.heap.setIfInBounds b z=w.heap:=by
  apply Array.ext_getElem?;intro i;rw [Array.getElem?_setIfInBounds];split
  ·rename_i e;subst e;split
   ·exact h.symm
   ·rename_i hs;rw [Array.getElem?_eq_none (by omega)]
  ·rfl
 rw [this]
theorem putObj_putObj (w:World) (b:Nat) (z z':Obj):(w.putObj b z).putObj b z'=w.putObj b z':=by
 unfold World.putObj;simp
theorem run_storeCells {b off:Nat} {ty:TypeId} {fr:Nat×Nat}:∀ (us:List Value) (i:Nat) (w:World) (cs:Array Value),w.heap[b]?=some (.cells cs ty fr) →
  (∀ u,u∈us→(∀ c,u≠.agg c)∧(∀ c,u≠.tuple c))→off+i+us.length≤cs.size→(∀ j,off+i≤j→j<off+i+us.length→(decide (fr.1≤j) && decide (j<fr.2))=false) →
  (storeCells ⟨b,off,none⟩ us i).run P w=.ok () (w.putObj b (.cells (overA cs (off+i) us) ty fr))
 | [],i,w,cs,hb,_,_,_=>by simp [storeCells,Sem.run,pure,overA,putObj_self hb]
 | u::us,i,w,cs,hb,h1,hsz,hfr=>by
   simp only [List.length_cons] at hsz hfr
   have hc:∃ old,w.cell? ⟨b,off+i,none⟩=some old:=by
    rw [cell_eq hb];have hlt:off+i<cs.size:=by omega
    exact ⟨_,Array.getElem?_eq_getElem hlt⟩
   obtain ⟨old,hc⟩:=hc;have hst:=run_store (P:=P) (h1 u (by simp)) hc (by rw [frozen_eq hb];exact hfr _ (by omega) (by omega));rw [setCell_eq hb] at hst
   have hb':(w.putObj b (.cells (cs.setIfInBounds (off+i) u) ty fr)).heap[b]?=some (.cells (cs.setIfInBounds (off+i) u) ty fr):=by
    apply World.putObj_heap_same;rcases Nat.lt_or_ge b w.heap.size with h' | h'
    ·exact h'
    ·rw [Array.getElem?_eq_none h'] at hb;cases hb
   have ih:=run_storeCells (off:=off) us (i+1) (w.putObj b (.cells (cs.setIfInBounds (off+i) u) ty fr)) (cs.setIfInBounds (off+i) u) hb' (fun u' hu'=>h1 u' (by simp [hu'])) (by rw [Array.size_setIfInBounds];omega) fun j h2 h3=>hfr j (by omega) (by omega);simp only [storeCells,Sem.run_bind,add_eq,hst,Result.andThen];rw [ih,putObj_putObj]
   rfl
theorem all_one {as:List V} {us:List Value} (hr:RVL μ as us) (h:as.all V.one=true):∀ u,u∈us→(∀ c,u≠.agg c)∧(∀ c,u≠.tuple c):=by
 induction as generalizing us with
 | nil=>cases hr;simp
 | cons a as ih =>
   cases hr with
   | cons h1 t =>
     simp only [List.all_cons,Bool.and_eq_true] at h;intro u hu;rcases List.mem_cons.1 hu with rfl | hu
     ·exact h1.one h.1
     ·exact ih t h.2 u hu
theorem run_putCells (h:Sim μ H w) {l o:Nat} {as:List V} {us:List Value} {H':Heap} (e:putCells H l o as=some H') (hr:RVL μ as us) {b base tot:Nat} (hm:μ l=some (b,base,tot)) :
  ∃ w',(storeCells ⟨b,base+o,none⟩ us).run P w=.ok () w'∧Post μ H w μ H' w':=by
 unfold putCells at e;split at e
 ·rename_i vs hg
  cases hcnd:(Nat.ble (o+as.length) vs.length && as.all V.one) with
  | false=>rw [hcnd] at e;cases e
  | true =>
    rw [hcnd] at e;simp only [cond_true,Option.some.injEq] at e;subst e;rw [Bool.and_eq_true,Nat.ble_eq] at hcnd;obtain ⟨b',base',tot',cs,ty,fr,hm',hb,hc⟩:=h.obj l _ hg;rw [hm] at hm';cases hm';have hl:=hr.length;have h1:=hc.len;have h2:=hc.room;refine ⟨_,run_storeCells us 0 w cs hb (all_one hr hcnd.2) (by omega) (fun j h3 h4=>hc.thaw rfl (by omega)),?_⟩;refine Post.turn h hg rfl hm _ ⟨b,base,tot,_,ty,fr,hm,World.putObj_heap_same ?_,?_⟩
    ·rcases Nat.lt_or_ge b w.heap.size with h' | h'
     ·exact h'
     ·rw [Array.getElem?_eq_none h'] at hb;cases hb
    ·simpa using hc.over hcnd.1 hr
 ·cases e
theorem RV.cells {v:V} {u:Value} (h:RV μ v u):RVL μ v.cells u.cells.toList:=by
 cases h <;> first | (rename_i h;exact h) | (refine .cons ?_ .nil;first | exact .bool _ | exact .int _ _ | exact .str _ | exact .nilPtr | exact .nilSlice | exact .nilMap | exact .nilFunc | exact .nilIface | (constructor <;> assumption))
theorem run_storeVar (hT:TabOk P T) (h:Sim μ H w) {t:TypeId} {l o:Nat} {v:V} {u:Value} {H':Heap} (e:storeVar T H t l o v=some H') (hv:RV μ v u) {b base tot:Nat} (hm:μ l=some (b,base,tot)) :
  ∃ w',(Go.storeVar t ⟨b,base+o,none⟩ u).run P w=.ok () w'∧Post μ H w μ H' w':=by
 unfold Am.storeVar at e;split at e
 ·rename_i n by' hsz
  simp only [cond_beq] at e;split at e
  ·rename_i hn;obtain ⟨i,hi,hin,_⟩:=hT.size _ _ _ hsz;obtain ⟨w',hrun,hp⟩:=run_putCells (P:=P) h e hv.cells hm;refine ⟨w',?_,hp⟩;have hl:=hv.cells.length;have hs:u.cells.size=n:=by rw [← Array.length_toList,hl,hn]
   simp only [Go.storeVar,Sem.run_bind,run_size hi,Result.andThen,hin,hs];simpa using hrun
  ·cases e
 ·cases e
theorem Post.newCells (h:Sim μ H w) {vs:List V} {cs:Array Value} (hr:RVL μ vs cs.toList) (ty:TypeId) :
  Post μ H w (upd μ H.n (w.heap.size,0,cs.size)) (H.push (.cells false vs)) (w.alloc (.cells cs ty)):=by
 refine Post.alloc h ⟨w.heap.size,0,cs.size,cs,ty,(0,0),upd_same _ _ _,World.alloc_heap_new _ _,?_⟩;have hl:=hr.length;rw [Array.length_toList] at hl;refine ⟨by omega,Nat.le_refl _,?_,fun _=>.inl rfl⟩;intro j v hv;obtain ⟨u,hu,hr'⟩:=(hr.mono (upd_ext h _)).get hv;exact ⟨u,by simpa using hu,hr'⟩
theorem run_newRow (ty:TypeId) (cs:Array Value):(newRow ty cs).run P w=.ok ⟨w.heap.size,0,none⟩ (w.alloc (.cells cs ty)):=by
 simp only [newRow,Sem.run_bind,run_newObj_alloc,Result.andThen,Sem.run_pure]
end Go.Am
