import GoSem.Step
/- THE SMALL MACHINE 'Am': Go.Code run over an abstract heap, in one fixed order, with checks that every other order that Go leaves open comes to the same. Definitions alone. -/
set_option linter.unusedVariables false
namespace Go.Am

/-! ### A persistent array -/
inductive Tr (α : Type) where
  | leaf
  | node (v : Option α) (l r : Tr α)

noncomputable def Tr.get {α : Type} (t : Tr α) : Nat → Option α :=
  Tr.rec (motive := fun _ => Nat → Option α) (fun _ => none) (fun v _ _ gl gr i => cond (Nat.beq i 0) v (cond (Nat.beq (i % 2) 1) (gl (i / 2)) (gr (i / 2 - 1)))) t

def Tr.mk {α : Type} : Nat → Nat → α → Tr α
  | 0, _, _ => .leaf
  | f + 1, i, a => cond (Nat.beq i 0) (.node (some a) .leaf .leaf)
      (cond (Nat.beq (i % 2) 1) (.node none (Tr.mk f (i / 2) a) .leaf) (.node none .leaf (Tr.mk f (i / 2 - 1) a)))

noncomputable def Tr.set {α : Type} (t : Tr α) : Nat → α → Tr α :=
  Tr.rec (motive := fun _ => Nat → α → Tr α) (fun i a => Tr.mk (i + 1) i a) (fun v l r sl sr i a => cond (Nat.beq i 0) (.node (some a) l r)
      (cond (Nat.beq (i % 2) 1) (.node v (sl (i / 2) a) r) (.node v l (sr (i / 2 - 1) a)))) t

noncomputable section

/-! ### Values, objects, the heap -/
inductive V where
  | bool (b : Bool)
  | int (k : IntKind) (n : Int)
  | str (s : List UInt8)
  | ptr (l o : Nat)
  | nilPtr
  /-- object, cell at which it begins, elements, cells an element, capacity where it is known -/
  | slice (l o n s : Nat) (c : Option Nat)
  | nilSlice
  | map (r : Nat)
  | nilMap
  | func (fn : Fn) (first captured : List V)
  | nilFunc
  | iface (t : TypeId) (v : V)
  | nilIface
  | agg (cs : List V)
  | tuple (vs : List V)
  deriving Inhabited

abbrev undefV : V := .tuple []

/-- Temporaries. -/
structure Ts where
  n : Nat
  t : Tr V

def Ts.get (s : Ts) (i : Nat) : V := (s.t.get i).getD undefV
def Ts.put (s : Ts) (i : Nat) (v : V) : Ts := cond (Nat.blt i s.n) ⟨s.n, s.t.set i v⟩ s

/-- A deferred call. -/
inductive D where
  | fn (f : FuncId) (args : List V)
  | collected (r : Nat)

inductive O where
  | cells (ro : Bool) (vs : List V)
  | stale
  | map (es : List (V × V))
  | loop (st : LoopState) (pending : Option Code) (fn : FuncId) (tmps : Ts) (params : List Tmp) (assign body : Code) (defers : Nat)
  | deferred (ds : Option (List D))

structure Heap where
  n : Nat
  t : Tr O

def Heap.get (H : Heap) (l : Nat) : Option O := cond (Nat.blt l H.n) (H.t.get l) none
def Heap.put (H : Heap) (l : Nat) (o : O) : Heap := ⟨H.n, H.t.set l o⟩
def Heap.push (H : Heap) (o : O) : Heap := ⟨H.n + 1, H.t.set H.n o⟩

/-- What the machine asks of the program. -/
structure Tab where
  und : TypeId → Option TypeDesc
  /-- cells, bytes -/
  size : TypeId → Option (Nat × Nat)
  zero : TypeId → Option (List V)
  zeroV : TypeId → Option V
  /-- '==' of two structs -/
  eqS : TypeId → List V → List V → Option Bool
  func : FuncId → Option Func
  /-- function, does it take a pointer -/
  meth : TypeId → String → Option (List FieldStep × FuncId × Bool)
  /-- functions that are not walked -/
  prim : FuncId → Option (List V → Heap → Option (V × Heap))

mutual
def ofVal : Value → Option V
  | .bool b => some (.bool b)
  | .int k n => some (.int k n)
  | .string ⟨⟨s⟩⟩ => some (.str s)
  | .pointer none => some .nilPtr
  | .slice none 0 0 => some .nilSlice
  | .map none => some .nilMap
  | .nilFunc => some .nilFunc
  | .nilIface => some .nilIface
  | .agg ⟨cs⟩ => (ofVals cs).map .agg
  | .tuple ⟨cs⟩ => (ofVals cs).map .tuple
  | .iface t v => (ofVal v).map (.iface t)
  | _ => none
def ofVals : List Value → Option (List V)
  | [] => some []
  | v :: vs => match ofVal v with
    | none => none
    | some x => match ofVals vs with
      | none => none
      | some xs => some (x :: xs)
end

structure A where
  tmps : Ts
  defers : List D

def A.tmp (a : A) (t : Tmp) : V := a.tmps.get t
def A.eval (a : A) : Operand → Option V
  | .tmp t => some (a.tmp t)
  | .const v => ofVal v
  | .global _ => none
  | .func f => some (.func (.func f) [] [])
def A.put (a : A) (dst : Option Tmp) (v : V) : A :=
  match dst with
  | some d => ⟨a.tmps.put d v, a.defers⟩
  | none => a

def V.cells : V → List V
  | .agg cs => cs
  | v => [v]
def V.one : V → Bool
  | .agg _ | .tuple _ => false
  | _ => true

/-! ### Cells -/
def cellsAt (H : Heap) (l : Nat) : Option (List V) :=
  match H.get l with
  | some (.cells _ vs) => some vs
  | _ => none

def take? (vs : List V) (o n : Nat) : Option (List V) :=
  let r := (vs.drop o).take n
  cond (Nat.beq r.length n) (some r) none

def isAgg? (T : Tab) (t : TypeId) : Option Bool :=
  match T.und t with
  | some (.struct _) | some (.array _ _) => some true
  | some _ => some false
  | none => none

def loadVar (T : Tab) (H : Heap) (t : TypeId) (l o : Nat) : Option V :=
  match cellsAt H l with
  | none => none
  | some vs => match isAgg? T t with
    | some true => match T.size t with
      | some (n, _) => (take? vs o n).map .agg
      | none => none
    | some false => vs[o]?
    | none => none

def over : List V → Nat → List V → List V
  | vs, 0, [] => vs
  | _ :: vs, 0, c :: cs => c :: over vs 0 cs
  | v :: vs, o + 1, cs => v :: over vs o cs
  | [], _, _ => []

/-- Cells into an object's. -/
def putCells (H : Heap) (l o : Nat) (cs : List V) : Option Heap :=
  match H.get l with
  | some (.cells false vs) => cond (Nat.ble (o + cs.length) vs.length && cs.all V.one) (some (H.put l (.cells false (over vs o cs)))) none
  | _ => none

def storeVar (T : Tab) (H : Heap) (t : TypeId) (l o : Nat) (v : V) : Option Heap :=
  match T.size t with
  | some (n, _) => cond (Nat.beq v.cells.length n) (putCells H l o v.cells) none
  | none => none

def fill (place : Nat → Option (Nat × Nat)) (cells : List V) : List (Nat × V) → Option (List V)
  | [] => some cells
  | (i, v) :: rest => match place i with
    | none => none
    | some (off, size) => cond (Nat.beq v.cells.length size && Nat.ble (off + size) cells.length) (fill place (over cells off v.cells) rest) none

def zeros (z : List V) : Nat → List V
  | 0 => []
  | n + 1 => z ++ zeros z n

/-! ### Operations on values -/
def sameCell : V → V → Option Bool
  | .int j a, .int k b => cond (decide (j = k)) (some (decide (a = b))) none
  | .bool a, .bool b => some (a == b)
  | .str a, .str b => some (a == b)
  | _, _ => none

def sameCells : List V → List V → Option Bool
  | [], [] => some true
  | a :: as, b :: bs => match sameCell a b with
    | some true => sameCells as bs
    | some false => some false
    | none => none
  | _, _ => none

def isConst : Operand → Bool
  | .const _ => true
  | _ => false

/-- '==' where it is asked of what this machine knows. 'k': is one side written out? -/
def equal (T : Tab) (t : TypeId) (k : Bool) (x y : V) : Option Bool :=
  match T.und t with
  | some (.pointer _) => match x, y with
    | .ptr _ _, .nilPtr | .nilPtr, .ptr _ _ => some false
    | .nilPtr, .nilPtr => some true
    | _, _ => none
  | some (.slice _) => match x, y with
    | .slice _ _ _ _ _, .nilSlice | .nilSlice, .slice _ _ _ _ _ => some false
    | .nilSlice, .nilSlice => some true
    | _, _ => none
  | some (.map _ _) => match x, y with
    | .map _, .nilMap | .nilMap, .map _ => some false
    | .nilMap, .nilMap => some true
    | _, _ => none
  | some (.func _ _ _) => match x, y with
    | .func _ _ _, .nilFunc | .nilFunc, .func _ _ _ => some false
    | .nilFunc, .nilFunc => some true
    | _, _ => none
  | some (.interface _) => match x, y with
    | .iface _ _, .nilIface | .nilIface, .iface _ _ => some false
    | .nilIface, .nilIface => cond k (some true) none
    | _, _ => none
  | some (.struct _) => match x, y with
    | .agg xs, .agg ys => T.eqS t xs ys
    | _, _ => none
  | some .bool => match x, y with
    | .bool a, .bool b => some (a == b)
    | _, _ => none
  | _ => none

def pureInt : Sem Value → Option V
  | .pure (.int k n) => some (.int k n)
  | .pure (.bool b) => some (.bool b)
  | _ => none

def intOp (op : BinOp) (k : IntKind) (a b : Int) : Option V :=
  match op with
  | .add => some (.int k (k.wrap (a + b)))
  | .sub => some (.int k (k.wrap (a - b)))
  | .mul => some (.int k (k.wrap (a * b)))
  | .quo => cond (decide (b = 0)) none (some (.int k (k.wrap (a.tdiv b))))
  | .rem => cond (decide (b = 0)) none (some (.int k (a.tmod b)))
  | .eql => some (.bool (decide (a = b)))
  | .neq => some (.bool (!decide (a = b)))
  | .lss => some (.bool (decide (a < b)))
  | .leq => some (.bool (decide (a ≤ b)))
  | .gtr => some (.bool (decide (a > b)))
  | .geq => some (.bool (decide (a ≥ b)))
  | .and | .or | .xor | .andNot => pureInt (Op.intBits op k a b)
  | _ => none

def strOp (op : BinOp) (x y : List UInt8) : Option V :=
  match op with
  | .add => cond (Nat.blt (x.length + y.length) 1099511627776) (some (.str (x ++ y))) none
  | .eql => some (.bool (x == y))
  | .neq => some (.bool !(x == y))
  | .lss => some (.bool (Op.bytesLess x y))
  | .leq => some (.bool (Op.bytesLess x y || x == y))
  | .gtr => some (.bool !(Op.bytesLess x y || x == y))
  | .geq => some (.bool !(Op.bytesLess x y))
  | _ => none

def binOp (T : Tab) (op : BinOp) (t : TypeId) (k : Bool) (x y : V) : Option V :=
  match x, y with
  | .int j a, .int j' b =>
    match op with
    | .shl | .shr => cond (decide (b < 0)) none (pureInt (Op.shift op j a j' b))
    | _ => cond (decide (j = j')) (intOp op j a b) none
  | .str a, .str b => strOp op a b
  | x, y => match op with
    | .eql => (equal T t k x y).map .bool
    | .neq => (equal T t k x y).map fun b => .bool (!b)
    | _ => none

def unOp (op : UnOp) (x : V) : Option V :=
  match op, x with
  | .neg, .int k n => some (.int k (k.wrap (0 - n)))
  | .not, .bool b => some (.bool (!b))
  | _, _ => none

def bytesOf : List V → Option (List UInt8)
  | [] => some []
  | .int .u8 n :: vs => (bytesOf vs).map (UInt8.ofNat n.toNat :: ·)
  | _ => none

def convert (T : Tab) (H : Heap) (src dst : TypeId) (x : V) : Option (V × Heap) :=
  match T.und src, T.und dst with
  | some us, some ud => match us, ud, x with
    | _, .int k, .int _ n => some (.int k (k.wrap n), H)
    | _, .string, .str s => some (.str s, H)
    | _, .slice e, .str s => match T.und e with
      | some (.int .u8) => some (.slice H.n 0 s.length 1 none, H.push (.cells false (s.map fun b => .int .u8 b.toNat)))
      | _ => none
    | .slice _, .slice e, .slice l o n s c => cond (Nat.beq src dst) (match T.und e, H.get l with
      | some (.int .u8), some (.cells false vs) => some (.slice l o n s c, H.put l (.cells false vs))
      | _, _ => none) none
    | .slice e, .string, x => match T.und e, x with
      | some (.int .u8), .nilSlice => some (.str [], H)
      | some (.int .u8), .slice l o n _ _ => match cellsAt H l with
        | some vs => match take? vs o n with
          | some cs => (bytesOf cs).map fun s => (.str s, H)
          | none => none
        | none => none
      | _, _ => none
    | _, _, _ => none
  | _, _ => none

def natOf : V → Option Nat
  | .int _ n => match n with
    | .ofNat m => some m
    | _ => none
  | _ => none

def optNat (x : Option V) (d : Nat) : Option Nat :=
  match x with
  | none => some d
  | some v => natOf v

/-- 'x[lo:hi:max]' -/
def sliceOp (T : Tab) (H : Heap) (t : TypeId) (x : V) (lo hi mx : Option V) : Option V :=
  match T.und t with
  | some .string => match x, mx, optNat lo 0 with
    | .str s, none, some a => match optNat hi s.length with
      | some b => cond (Nat.ble a b && Nat.ble b s.length) (some (.str ((s.take b).drop a))) none
      | none => none
    | _, _, _ => none
  | some (.slice e) => match x, T.size e, optNat lo 0 with
    | .nilSlice, some _, some a => match optNat hi 0, mx with
      | some b, none => cond (Nat.beq a 0 && Nat.beq b 0) (some .nilSlice) none
      | _, _ => none
    | .slice l o n s c, some (sz, _), some a => match optNat hi n, mx with
      | some b, none => cond (Nat.beq sz s && Nat.ble a b && Nat.ble b (c.getD n))
          (some (match c with
            | some m => cond (Nat.beq m a) (.slice l o 0 s (some 0)) (.slice l (o + a * s) (b - a) s (some (m - a)))
            | none => .slice l (o + a * s) (b - a) s none)) none
      | some b, some v => match natOf v with
        | some m => cond (Nat.beq sz s && Nat.ble a b && Nat.ble b m && Nat.ble m (c.getD n) && hi.isSome)
            (some (cond (Nat.beq m a) (.slice l o 0 s (some 0)) (.slice l (o + a * s) (b - a) s (some (m - a))))) none
        | none => none
      | _, _ => none
    | _, _, _ => none
  | some (.array n e) => match x, T.size e, optNat lo 0 with
    | .ptr l o, some (s, _), some a => match optNat hi n, mx, cellsAt H l with
      | some b, none, some vs => cond (Nat.ble a b && Nat.ble b n && Nat.ble (o + n * s) vs.length)
          (some (cond (Nat.beq n a) (.slice l o 0 s (some 0)) (.slice l (o + a * s) (b - a) s (some (n - a))))) none
      | _, _, _ => none
    | _, _, _ => none
  | _ => none

def fieldsOf (T : Tab) (t : TypeId) : Option (Array Field) :=
  match T.und t with
  | some (.struct fs) => some fs
  | _ => none

def part (T : Tab) (t : TypeId) (cs : List V) (o : Nat) : Option V :=
  match isAgg? T t with
  | some true => match T.size t with
    | some (n, _) => (take? cs o n).map .agg
    | none => none
  | some false => cs[o]?
  | none => none

def evals (a : A) : List Operand → Option (List V)
  | [] => some []
  | x :: xs => match a.eval x with
    | none => none
    | some v => match evals a xs with
      | none => none
      | some vs => some (v :: vs)

def evalParts (a : A) : List (Nat × Operand) → Option (List (Nat × V))
  | [] => some []
  | (i, x) :: xs => match a.eval x with
    | none => none
    | some v => match evalParts a xs with
      | none => none
      | some vs => some ((i, v) :: vs)

def evalOpt (a : A) : Option Operand → Option (Option V)
  | none => some none
  | some x => (a.eval x).map some

/-! ### Maps -/
def mapFind (k : V) : List (V × V) → Option (Option V)
  | [] => some none
  | (k', v) :: es => match sameCell k k' with
    | some true => some (some v)
    | some false => mapFind k es
    | none => none

def mapSet (k x : V) : List (V × V) → Option (List (V × V))
  | [] => some [(k, x)]
  | (k', v) :: es => match sameCell k k' with
    | some true => some ((k, x) :: es)
    | some false => (mapSet k x es).map ((k', v) :: ·)
    | none => none

def keyOk (T : Tab) (kt : TypeId) (k : V) : Bool :=
  match T.und kt, k with
  | some (.int j), .int j' _ => decide (j = j')
  | some .string, .str _ => true
  | some .bool, .bool _ => true
  | _, _ => false

def mapGet (H : Heap) (m k : V) : Option (Option V) :=
  match m with
  | .nilMap => some none
  | .map r => match H.get r with
    | some (.map es) => mapFind k es
    | _ => none
  | _ => none

def lookup (T : Tab) (H : Heap) (t : TypeId) (m k : V) (ok : Bool) : Option V :=
  match T.und t with
  | some (.map kt et) => cond (keyOk T kt k) (
      match mapGet H m k with
      | none => none
      | some (some v) => some (cond ok (.tuple [v, .bool true]) v)
      | some none => match T.zeroV et with
        | some z => some (cond ok (.tuple [z, .bool false]) z)
        | none => none) none
  | _ => none

def mapUpdate (T : Tab) (H : Heap) (t : TypeId) (m k x : V) : Option Heap :=
  match T.und t, m with
  | some (.map kt _), .map r => cond (keyOk T kt k) (match H.get r with
      | some (.map es) => (mapSet k x es).map fun es' => H.put r (.map es')
      | _ => none) none
  | _, _ => none

/-! ### append, copy -/
/-- The first n elements' cells. -/
def firstCells (H : Heap) (s n : Nat) : V → Option (List V)
  | .slice l o _ _ _ => match cellsAt H l with
    | some vs => take? vs o (n * s)
    | none => none
  | .nilSlice => cond (Nat.beq n 0) (some []) none
  | .str x => cond (Nat.beq s 1 && Nat.ble n x.length) (some ((x.take n).map fun b => .int .u8 b.toNat)) none
  | _ => none

def lenOf : V → Option Nat
  | .slice _ _ n _ _ => some n
  | .nilSlice => some 0
  | .str x => some x.length
  | _ => none

/-- May what is there be grown into? Then nobody may look at it by its old name. -/
def retire (H : Heap) (l : Nat) : Option Heap :=
  match H.get l with
  | some (.cells false _) => some (H.put l .stale)
  | _ => none

/-- What is appended: how many elements, their cells. -/
def appended (H : Heap) (u1 : TypeDesc) (s bytes : Nat) (z : List V) (y : V) : Option (Nat × List V) :=
  match u1 with
  | .int _ => match natOf y with
    | some n => cond (Nat.blt n 17592186044416 && Nat.blt (n * bytes) 17592186044416) (some (n, zeros z n)) none
    | none => none
  | _ => match lenOf y with
    | some n => (firstCells H s n y).map fun cs => (n, cs)
    | none => none

def append (T : Tab) (H : Heap) (at0 at1 : TypeId) (x y : V) : Option (V × Heap) :=
  match T.und at0, T.und at1 with
  | some (.slice e), some u1 => match T.size e, T.zero e with
    | some (s, bytes), some z => cond (Nat.beq z.length s) (match appended H u1 s bytes z y with
      | none => none
      | some (n, new) => match x with
        | .nilSlice => cond (Nat.blt n 17592186044416 && Nat.blt (n * bytes) 17592186044416)
            (cond (Nat.beq n 0) (some (.nilSlice, H)) (some (.slice H.n 0 n s none, H.push (.cells false new)))) none
        | .slice l o m s' c => cond (Nat.beq s s' && Nat.blt (m + n) 17592186044416 && Nat.blt ((m + n) * bytes) 17592186044416) (cond (Nat.beq n 0) (some (.slice l o m s' c, H)) (
            match firstCells H s m x with
            | none => none
            | some old => match c with
              | some q => cond (Nat.ble (m + n) q) ((putCells H l (o + m * s) new).map fun H' => (.slice l o (m + n) s c, H'))
                  (some (.slice H.n 0 (m + n) s none, H.push (.cells false (old ++ new))))
              | none => cond (new.all V.one) (match retire H l with
                | some H' => some (.slice H'.n 0 (m + n) s none, H'.push (.cells false (old ++ new)))
                | none => none) none)) none
        | _ => none) none
    | _, _ => none
  | _, _ => none

def copy (T : Tab) (H : Heap) (at0 : TypeId) (x y : V) : Option (V × Heap) :=
  match T.und at0 with
  | some (.slice e) => match T.size e, lenOf x, lenOf y with
    | some (s, _), some m, some n =>
      let k := min n m
      match firstCells H s k y, x with
      | some _, .nilSlice => some (.int .i64 0, H)
      | some cs, .slice l o _ s' _ => cond (Nat.beq s s') (cond (Nat.beq k 0) (some (.int .i64 0, H)) ((putCells H l o cs).map fun H' => (.int .i64 k, H'))) none
      | _, _ => none
    | _, _, _ => none
  | _ => none

def extremum (op : Int → Int → Bool) : V → List V → Option V
  | x, [] => some x
  | .int k a, .int k' b :: vs => cond (decide (k = k')) (extremum op (.int k (cond (op b a) b a)) vs) none
  | _, _ => none

/-- Where a field lies, and how many cells it has. -/
def placeOf (T : Tab) (fs : Array Field) (i : Nat) : Option (Nat × Nat) :=
  match fs[i]? with
  | some f => match T.size f.type with
    | some (n, _) => some (f.offset, n)
    | none => none
  | none => none

def sizesOk (T : Tab) : List Field → Bool
  | [] => true
  | f :: fs => match T.size f.type with
    | some _ => sizesOk T fs
    | none => false

/-! ### One operation -/
inductive OR where
  | val (v : V) (H : Heap)
  | call (f : FuncId) (args : List V)
  | round (l : Nat) (args : List V)
  | defer (d : D)
  | panic (v : V)
  | recover
  | stuck

def OR.ofV (H : Heap) : Option V → OR
  | some v => .val v H
  | none => .stuck
def OR.ofH (H : Option Heap) : OR :=
  match H with
  | some H => .val undefV H
  | none => .stuck
def OR.ofVH : Option (V × Heap) → OR
  | some (v, H) => .val v H
  | none => .stuck

def builtin (T : Tab) (H : Heap) (b : Builtin) (ts : Array TypeId) (args : List V) : OR :=
  match b, args with
  | .len, [x] => match ts[0]? with
    | none => .stuck
    | some t => match T.und t with
      | some .string => match x with
        | .str s => .val (.int .i64 s.length) H
        | _ => .stuck
      | some (.slice _) => match x with
        | .slice _ _ n _ _ => .val (.int .i64 n) H
        | .nilSlice => .val (.int .i64 0) H
        | _ => .stuck
      | some (.map _ _) => match x with
        | .nilMap => .val (.int .i64 0) H
        | .map r => match H.get r with
          | some (.map es) => .val (.int .i64 es.length) H
          | _ => .stuck
        | _ => .stuck
      | _ => .stuck
  | .cap, [x] => match ts[0]? with
    | none => .stuck
    | some t => match T.und t with
      | some (.slice _) => match x with
        | .slice _ _ _ _ (some c) => .val (.int .i64 c) H
        | .nilSlice => .val (.int .i64 0) H
        | _ => .stuck
      | _ => .stuck
  | .append, [x, y] => match ts[0]?, ts[1]? with
    | some t0, some t1 => .ofVH (append T H t0 t1 x y)
    | _, _ => .stuck
  | .copy, [x, y] => match ts[0]? with
    | some t0 => .ofVH (copy T H t0 x y)
    | _ => .stuck
  | .clear, [x] => match ts[0]? with
    | some t0 => match T.und t0, x with
      | some (.slice _), .nilSlice => .val undefV H
      | some (.slice e), .slice l o n s _ => match T.zero e with
        | some z => cond (Nat.beq z.length s) (cond (Nat.beq n 0) (.val undefV H) (.ofH (putCells H l o (zeros z n)))) .stuck
        | none => .stuck
      | _, _ => .stuck
    | _ => .stuck
  | .min, x :: xs => .ofV H (extremum (fun b a => decide (b < a)) x xs)
  | .max, x :: xs => .ofV H (extremum (fun b a => decide (b > a)) x xs)
  | .recover, [] => .recover
  | _, _ => .stuck

def callee (f : V) (args : List V) : OR :=
  match f with
  | .func (.func g) first captured => .call g (first ++ args ++ captured)
  | .func (.yield l) [] [] => .round l args
  | _ => .stuck

/-- Where a promoted method's receiver is: a value, or a variable. -/
inductive Pl where
  | val (v : V)
  | var (l o : Nat)
def Pl.get (T : Tab) (H : Heap) (t : TypeId) : Pl → Option V
  | .val v => some v
  | .var l o => loadVar T H t l o

def follow (T : Tab) (H : Heap) : List FieldStep → TypeId → Pl → Option (TypeId × Pl)
  | [], t, x => some (t, x)
  | s :: rest, t, x => match T.und s.struct with
    | some (.struct fs) => match fs[s.index]? with
      | some f => match T.size f.type with
        | some (n, _) => cond (Nat.beq n 0) none (
          match s.deref with
          | true => match x.get T H t with
            | some (.ptr l o) => follow T H rest f.type (.var l (o + f.offset))
            | _ => none
          | false => match x with
            | .var l o => follow T H rest f.type (.var l (o + f.offset))
            | .val (.agg cs) => match part T f.type cs f.offset with
              | some v => follow T H rest f.type (.val v)
              | none => none
            | _ => none)
        | none => none
      | none => none
    | _ => none

def receiver (T : Tab) (H : Heap) (t : TypeId) (x : Pl) (p : Bool) : Option V :=
  match T.und t with
  | some (.pointer e) => match p with
    | true => x.get T H t
    | false => match x.get T H t with
      | some (.ptr l o) => loadVar T H e l o
      | _ => none
  | some _ => match p, x with
    | true, .var l o => some (.ptr l o)
    | false, x => x.get T H t
    | _, _ => none
  | none => none

/-- The method of an interface value. -/
def invoked (T : Tab) (H : Heap) (r : V) (name : String) (args : List V) : OR :=
  match r with
  | .iface t v => match T.meth t name with
    | some (path, f, p) => match follow T H path t (.val v) with
      | some (xt, x) => match receiver T H xt x p with
        | some y => .call f (y :: args)
        | none => .stuck
      | none => .stuck
    | none => .stuck
  | _ => .stuck

def callOp (T : Tab) (a : A) (H : Heap) (c : Call) : OR :=
  match evals a c.args.toList with
  | none => .stuck
  | some args => match c.callee with
    | .builtin b => builtin T H b c.argTypes args
    | .invoke r name => match a.eval r with
      | some r => invoked T H r name args
      | none => .stuck
    | .value f => match a.eval f with
      | some f => callee f args
      | none => .stuck

def op1 (a : A) (x : Operand) (k : V → OR) : OR :=
  match a.eval x with
  | some v => k v
  | none => .stuck

def execOp (T : Tab) (a : A) (H : Heap) (o : Op) : OR :=
  match o with
  | .move x | .assign x => op1 a x fun v => .val v H
  | .pick c x y => op1 a c fun
    | .bool true => op1 a x fun v => .val v H
    | .bool false => op1 a y fun v => .val v H
    | _ => .stuck
  | .alloc t => match T.zero t with
    | some z => .val (.ptr H.n 0) (H.push (.cells false z))
    | none => .stuck
  | .box _ x => op1 a x fun v => .val (.ptr H.n 0) (H.push (.cells false v.cells))
  | .build t ps => match T.zero t, evalParts a ps.toList, T.und t with
    | some z, some ps, some (.struct fs) => cond (sizesOk T fs.toList) (.ofV H ((fill (placeOf T fs) z ps).map .agg)) .stuck
    | some z, some ps, some (.array _ e) => match T.size e with
      | some (s, _) => .ofV H ((fill (fun i => some (i * s, s)) z ps).map .agg)
      | none => .stuck
    | _, _, _ => .stuck
  | .buildSlice t n ps => match T.und t with
    | some (.slice e) => match T.size e, T.zero e, evalParts a ps.toList with
      | some (s, _), some z, some ps => cond (Nat.ble (n * s) 16777216 && Nat.beq z.length s) (match fill (fun i => some (i * s, s)) (zeros z n) ps with
        | some cs => .val (.slice H.n 0 n s (some n)) (H.push (.cells false cs))
        | none => .stuck) .stuck
      | _, _, _ => .stuck
    | _ => .stuck
  | .load t x => op1 a x fun
    | .ptr l o => .ofV H (loadVar T H t l o)
    | _ => .stuck
  | .store t x y => op1 a x fun
    | .ptr l o => op1 a y fun v => .ofH (storeVar T H t l o v)
    | _ => .stuck
  | .nilCheck x => op1 a x fun
    | .nilPtr | .nilIface | .nilFunc => .stuck
    | .func (.func f) u v => .val (.func (.func f) u v) H
    | .func (.yield f) u v => .val (.func (.yield f) u v) H
    | .func _ _ _ => .stuck
    | v => .val v H
  | .binOp op t x y _ => op1 a x fun u => op1 a y fun v => .ofV H (binOp T op t (isConst x || isConst y) u v)
  | .unOp op _ x => op1 a x fun v => .ofV H (unOp op v)
  | .convert s d x => op1 a x fun v => .ofVH (convert T H s d v)
  | .makeInterface t x => op1 a x fun v => match T.und t with
    | some (.interface _) | none => .stuck
    | some _ => .val (.iface t v) H
  | .makeFunc fn first captured => match fn, evals a first.toList, evals a captured.toList with
    | .func f, some u, some v => .val (.func (.func f) u v) H
    | _, _, _ => .stuck
  | .makeMap _ none => .val (.map H.n) (H.push (.map []))
  | .makeMap t (some x) => op1 a x fun v => match T.und t, v with
    | some (.map _ _), .int _ _ => .val (.map H.n) (H.push (.map []))
    | _, _ => .stuck
  | .makeSlice t x y => op1 a x fun u => op1 a y fun v => match T.und t, natOf u, natOf v with
    | some (.slice e), some n, some c => match T.size e, T.zero e with
      | some (s, bytes), some z => cond (Nat.ble n c && Nat.blt (c * bytes) 17592186044416 && Nat.blt c 17592186044416 && Nat.beq z.length s && Nat.blt 0 s)
          (.val (.slice H.n 0 n s (some c)) (H.push (.cells false (zeros z c)))) .stuck
      | _, _ => .stuck
    | _, _, _ => .stuck
  | .slice t x lo hi mx => op1 a x fun v => match evalOpt a lo, evalOpt a hi, evalOpt a mx with
    | some lo, some hi, some mx => .ofV H (sliceOp T H t v lo hi mx)
    | _, _, _ => .stuck
  | .fieldAddr t x i => op1 a x fun
    | .ptr l o => match fieldsOf T t with
      | some fs => match fs[i]? with
        | some f => match T.size f.type with
          | some (n, _) => cond (Nat.beq n 0) .stuck (.val (.ptr l (o + f.offset)) H)
          | none => .stuck
        | none => .stuck
      | none => .stuck
    | _ => .stuck
  | .field t x i => op1 a x fun
    | .agg cs => match fieldsOf T t with
      | some fs => match fs[i]? with
        | some f => .ofV H (part T f.type cs f.offset)
        | none => .stuck
      | none => .stuck
    | _ => .stuck
  | .indexAddr t x i => op1 a x fun u => op1 a i fun v => match T.und t, u, natOf v with
    | some (.slice e), .slice l o n s _, some j => match T.size e with
      | some (sz, _) => cond (Nat.beq sz s && Nat.blt j n) (.val (.ptr l (o + j * s)) H) .stuck
      | none => .stuck
    | some (.array n e), .ptr l o, some j => match T.size e with
      | some (s, _) => cond (Nat.blt j n) (.val (.ptr l (o + j * s)) H) .stuck
      | none => .stuck
    | _, _, _ => .stuck
  | .index t x i => op1 a x fun u => op1 a i fun v => match T.und t, u, natOf v with
    | some .string, .str s, some j => match s[j]? with
      | some b => .val (.int .u8 b.toNat) H
      | none => .stuck
    | some (.array n e), .agg cs, some j => match T.size e with
      | some (s, _) => cond (Nat.blt j n) (.ofV H (part T e cs (j * s))) .stuck
      | none => .stuck
    | _, _, _ => .stuck
  | .lookup t x i ok => op1 a x fun u => op1 a i fun v => .ofV H (lookup T H t u v ok)
  | .mapUpdate t m k x | .insert t m k x => op1 a m fun m => op1 a k fun k => op1 a x fun v => .ofH (mapUpdate T H t m k v)
  | .typeAssert x _ u ok => op1 a x fun v => match T.und u, v with
    | some (.interface _), _ | none, _ => .stuck
    | some _, .iface t w => cond (Nat.beq t u) (.val (cond ok (.tuple [w, .bool true]) w) H)
        (cond ok (match T.zeroV u with
          | some z => .val (.tuple [z, .bool false]) H
          | none => .stuck) .stuck)
    | some _, .nilIface => cond ok (match T.zeroV u with
          | some z => .val (.tuple [z, .bool false]) H
          | none => .stuck) .stuck
    | _, _ => .stuck
  | .extract x i => op1 a x fun
    | .tuple vs => .ofV H vs[i]?
    | _ => .stuck
  | .call c => callOp T a H c
  | .defer c => match c.callee, evals a c.args.toList with
    | .value g, some args => match a.eval g with
      | some (.func (.func f) first captured) => .defer (.fn f (first ++ args ++ captured))
      | _ => .stuck
    | _, _ => .stuck
  | .panic x => op1 a x fun
    | .iface t v => .panic (.iface t v)
    | _ => .stuck
  | _ => .stuck

/-! ### Regions -/
/-- What can stand anywhere among the others: it makes a value out of its operands alone, or a new object. -/
def quiet : Op → Bool
  | .move _ | .assign _ | .pick .. | .alloc _ | .box .. | .build .. | .buildSlice .. | .nilCheck _ | .binOp .. | .unOp .. | .makeInterface ..
  | .makeFunc .. | .makeMap .. | .makeSlice .. | .slice .. | .fieldAddr .. | .field .. | .indexAddr .. | .index .. | .typeAssert .. | .extract .. => true
  | .call { callee := .builtin .len, .. } | .call { callee := .builtin .cap, .. } | .call { callee := .builtin .min, .. } | .call { callee := .builtin .max, .. } => true
  | _ => false
def reads : Op → Bool
  | .load .. => true
  | _ => false
def loud (o : Op) : Bool := !(quiet o || reads o)

def tmpsOf (xs : List Operand) : List Tmp := xs.filterMap fun
  | .tmp t => some t
  | _ => none
/-- The temporaries that an operation reads. -/
def looks (ops : Array Oper) (o : Oper) : List Tmp :=
  tmpsOf o.op.operands.toList ++ (match o.guard with
    | some (g, _) => ((ops[g]?).bind (·.dst)).toList
    | none => [])

/-- Two operations of which neither must come first: they touch no temporary of each other's, and they are not both loud. -/
def apart (ops : Array Oper) (x y : Oper) : Bool :=
  (match x.dst with
    | some d => !(looks ops y).contains d && !(y.dst == some d)
    | none => true) &&
  (match y.dst with
    | some d => !(looks ops x).contains d
    | none => true) && !(loud x.op && loud y.op)

def pairsOk (ops : Array Oper) (bef : Array Nat) : Bool :=
  (List.range ops.size).all fun j => (List.range j).all fun i =>
    (bef.getD j 0).testBit i || (match ops[i]?, ops[j]? with
      | some x, some y => apart ops x y
      | _, _ => false)

/-- Every edge leads back, and the guard's operation stands ahead. -/
def edgesOk (ops : Array Oper) (bef : Array Nat) : Bool :=
  (List.range ops.size).all fun j => match ops[j]? with
    | some o => (o.after.all fun e => !Region.binds .any e || Nat.blt e.on j) &&
        (match o.guard with
          | some (g, _) => (bef.getD j 0).testBit g
          | none => true)
    | none => false

/-- The order in which this machine goes: each loud operation as soon as what it needs is there, the others no sooner than they are needed. -/
def sched (ops : Array Oper) (bef : Array Nat) : List Nat :=
  let loudOnes := (List.range ops.size).filter fun i => match ops[i]? with
    | some o => loud o.op
    | none => false
  let go := loudOnes.foldl (fun (acc : List Nat × Nat) h =>
    let new := (List.range h).filter fun i => (bef.getD h 0).testBit i && !acc.2.testBit i
    (acc.1 ++ new ++ [h], (acc.2 ||| bef.getD h 0) ||| 2 ^ h)) ([], 0)
  go.1 ++ (List.range ops.size).filter fun i => !go.2.testBit i

/-- Is it an order that the operations allow, and in which what stands ahead of a loud one must do so? -/
def orderOk (ops : Array Oper) (bef : Array Nat) : List Nat → Bool
  | [] => true
  | i :: rest => (rest.all fun j => !Nat.beq i j && !(bef.getD i 0).testBit j && (match ops[j]? with
      | some o => !loud o.op || (bef.getD j 0).testBit i
      | none => false)) && orderOk ops bef rest
/-- No temporary is written twice. -/
def dstsOk (ops : Array Oper) : List Nat → Bool
  | [] => true
  | i :: rest => (match (ops[i]?).bind (·.dst) with
      | some d => rest.all fun j => !((ops[j]?).bind (·.dst) == some d)
      | none => true) && dstsOk ops rest
def drawOk (ops : Array Oper) : Bool :=
  let bef := Region.before ops
  pairsOk ops bef && edgesOk ops bef && orderOk ops bef (sched ops bef) && dstsOk ops (List.range ops.size) && ((List.range ops.size).all fun i => (sched ops bef).contains i) && ((sched ops bef).all fun i => Nat.blt i ops.size)

inductive Ex where
  | normal
  | exit (id : Nat)
  | goto (l : Nat)
  | ret
  | panic (v : V)

def sameV.same1 : V → V → Bool
  | .bool a, .bool b => a == b
  | .int j a, .int k b => decide (j = k) && decide (a = b)
  | .str a, .str b => a == b
  | .ptr a b, .ptr c d => Nat.beq a c && Nat.beq b d
  | .nilPtr, .nilPtr => true
  | .slice a b c d e, .slice a' b' c' d' e' => Nat.beq a a' && Nat.beq b b' && Nat.beq c c' && Nat.beq d d' && decide (e = e')
  | .nilSlice, .nilSlice => true
  | .map a, .map b => Nat.beq a b
  | .nilMap, .nilMap => true
  | .nilFunc, .nilFunc => true
  | .nilIface, .nilIface => true
  | .func (.func f) [] [], .func (.func g) [] [] => Nat.beq f g
  | .func (.func f) [] [.ptr a b], .func (.func g) [] [.ptr c d] => Nat.beq f g && Nat.beq a c && Nat.beq b d
  | .iface t (.int j a), .iface u (.int k b) => Nat.beq t u && decide (j = k) && decide (a = b)
  | _, _ => false
def sameV.sameVs : List V → List V → Bool
  | [], [] => true
  | x :: xs, y :: ys => sameV.same1 x y && sameV.sameVs xs ys
  | _, _ => false
def sameV : V → V → Bool
  | .agg xs, .agg ys => sameV.sameVs xs ys
  | x, y => sameV.same1 x y

/-- What a reading operation read must have stood there at each loud operation that it may come ahead of. -/
def stood (T : Tab) (a : A) (o : Oper) (v : V) (mask : Nat) : List (Nat × Heap) → Bool
  | [] => true
  | (h, H) :: rest => (mask.testBit h || (match execOp T a H o.op with
      | .val u _ => sameV u v
      | _ => false)) && stood T a o v mask rest

def wanted (ops : Array Oper) (a : A) (o : Oper) : Bool :=
  match o.guard with
  | none => true
  | some (j, want) => match (ops[j]?).bind (·.dst) with
    | some d => match a.tmp d with
      | .bool b => b == want
      | _ => false
    | none => false

inductive CR where
  | returned (v : V) (H : Heap)
  | panicked (v : V) (H : Heap)
  | stuck

abbrev Ev := Option Nat → Code → A → Heap → Option (Ex × A × Heap)

/-- The function's results. -/
def results (T : Tab) (H : Heap) (a : A) : List ResultVar → Option (List V)
  | [] => some []
  | .tmp t :: rs => match results T H a rs with
    | some vs => some (a.tmp t :: vs)
    | none => none
  | .cell p t :: rs => match a.tmp p with
    | .ptr l o => match loadVar T H t l o, results T H a rs with
      | some v, some vs => some (v :: vs)
      | _, _ => none
    | _ => none

def pack : List V → V
  | [v] => v
  | vs => .tuple vs

def initT : List V → Nat → Tr V → Tr V
  | [], _, t => t
  | v :: vs, i, t => initT vs (i + 1) (t.set i v)

/-- The panic under way ahead of a deferred call, and whether it has been recovered. -/
inductive Md where
  | returning
  | panicking (v : V)
  | recovered (v : V)

/-- A deferred call's own operations: they call nothing but recover. -/
def opsD (T : Tab) (ops : Array Oper) : List Nat → Md → A → Heap → Option (Ex × Md × A × Heap)
  | [], m, a, H => some (.normal, m, a, H)
  | i :: rest, m, a, H => match ops[i]? with
    | none => none
    | some o => cond (wanted ops a o) (match execOp T a H o.op with
        | .val v H' => opsD T ops rest m (a.put o.dst v) H'
        | .recover => match m with
          | .panicking v => opsD T ops rest (.recovered v) (a.put o.dst v) H
          | m => opsD T ops rest m (a.put o.dst .nilIface) H
        | _ => none) (opsD T ops rest m (a.put o.dst undefV) H)

def evD (T : Tab) : Nat → Code → Md → A → Heap → Option (Ex × Md × A × Heap)
  | 0, _, _, _, _ => none
  | n + 1, c, m, a, H => match c with
    | .skip => some (.normal, m, a, H)
    | .ret => some (.ret, m, a, H)
    | .seq x y => match evD T n x m a H with
      | some (.normal, m', a', H') => evD T n y m' a' H'
      | r => r
    | .cond x y z => match a.eval x with
      | some (.bool true) => evD T n y m a H
      | some (.bool false) => evD T n z m a H
      | _ => none
    | .region _ ops false => opsD T ops (List.range ops.size) m a H
    | _ => none

def start (args : List V) (n : Nat) : A := ⟨⟨n, initT args 0 .leaf⟩, []⟩

/-- A deferred call, which neither panics nor defers nor calls anything itself. -/
def callD (T : Tab) (n : Nat) (f : FuncId) (args : List V) (m : Md) (H : Heap) : Option (Md × Heap) :=
  match T.func f with
  | none => none
  | some fn => match fn.body with
    | none => none
    | some c => cond (Nat.ble args.length fn.ntmps) (match evD T n c m (start args fn.ntmps) H with
      | some (.normal, m', _, H') | some (.ret, m', _, H') => cond fn.results.isEmpty (some (m', H')) none
      | _ => none) none

def Md.settle : Md → Md
  | .recovered _ => .returning
  | m => m

/-- How a frame leaves: its deferred calls, then its results. -/
def leave (T : Tab) (n : Nat) (fn : Func) (a : A) : List D → Md → Heap → CR
  | d :: ds, m, H => match d with
    | .collected r => match H.get r with
      | some (.deferred (some [])) => leave T n fn a ds m (H.put r (.deferred none))
      | _ => .stuck
    | .fn g args => match callD T n g args m H with
      | some (m', H') => leave T n fn a ds m'.settle H'
      | none => .stuck
  | [], .panicking v, H => .panicked v H
  | [], _, H => match results T H a fn.results.toList with
    | some vs => .returned (pack vs) H
    | none => .stuck

/-- One activation. -/
def enter (T : Tab) (ev : Ev) (fuel : Nat) (f : FuncId) (args : List V) (H : Heap) : CR :=
  match T.func f with
  | none => .stuck
  | some fn => match fn.body with
    | none => .stuck
    | some c => cond (Nat.ble args.length fn.ntmps) (match ev none c (start args fn.ntmps) H with
      | some (.normal, a, H') | some (.ret, a, H') => leave T fuel fn a a.defers .returning H'
      | some (.panic v, a, H') => leave T fuel fn a a.defers (.panicking v) H'
      | _ => .stuck) .stuck

def calls (T : Tab) (ev : Ev) (fuel : Nat) (f : FuncId) (args : List V) (H : Heap) : CR :=
  match T.prim f with
  | some g => match g args H with
    | some (v, H') => .returned v H'
    | none => .stuck
  | none => enter T ev fuel f args H

/-- One round of a range over a function: what yield hands back. -/
def round (ev : Ev) (l : Nat) (args : List V) (H : Heap) : CR :=
  match H.get l with
  | some (.loop .ready p fn tmps params assign body ds) => cond (Nat.beq args.length params.length) (
      let tmps' := (params.zip args).foldl (fun t (x : Tmp × V) => t.put x.1 x.2) tmps
      match ev (some l) assign ⟨tmps', []⟩ H with
      | some (.normal, a, H1) => match H1.get l with
        | some (.loop .ready p1 fn1 tmps1 params1 assign1 body1 ds1) => match ev (some l) body a (H1.put l (.loop .busy p1 fn1 tmps1 params1 assign1 body1 ds1)) with
          | some (e, _, H2) => match H2.get l with
            | some (.loop .busy _ fn2 tmps2 params2 assign2 body2 ds2) =>
              match e with
              | .normal => .returned (.bool true) (H2.put l (.loop .ready none fn2 tmps2 params2 assign2 body2 ds2))
              | .ret => .returned (.bool false) (H2.put l (.loop .done (some .ret) fn2 tmps2 params2 assign2 body2 ds2))
              | .exit id => .returned (.bool false) (H2.put l (.loop .done (some (.exit id)) fn2 tmps2 params2 assign2 body2 ds2))
              | _ => .stuck
            | _ => .stuck
          | none => .stuck
        | _ => .stuck
      | _ => .stuck) .stuck
  | _ => .stuck

/-- Operations in the text's order. -/
def runOps (T : Tab) (ev : Ev) (fuel : Nat) (rho : Option Nat) (ops : Array Oper) : List Nat → A → Heap → Option (Ex × A × Heap)
  | [], a, H => some (.normal, a, H)
  | i :: rest, a, H => match ops[i]? with
    | none => none
    | some o => cond (wanted ops a o) (
        match execOp T a H o.op with
        | .val v H' => runOps T ev fuel rho ops rest (a.put o.dst v) H'
        | .call f args => match calls T ev fuel f args H with
          | .returned v H' => runOps T ev fuel rho ops rest (a.put o.dst v) H'
          | .panicked v H' => some (.panic v, a, H')
          | .stuck => none
        | .round l args => match round ev l args H with
          | .returned v H' => runOps T ev fuel rho ops rest (a.put o.dst v) H'
          | _ => none
        | .defer d => cond rho.isNone (runOps T ev fuel rho ops rest ((A.mk a.tmps (d :: a.defers)).put o.dst undefV) H) none
        | .panic v => some (.panic v, a, H)
        | .recover => none
        | .stuck => none) (runOps T ev fuel rho ops rest (a.put o.dst undefV) H)

/-- A quiet operation: its value, and the object that it makes, whose place is k. -/
def quietAt (T : Tab) (a : A) (k : Nat) (o : Op) : Option (V × Option O) :=
  match execOp T a ⟨k, .leaf⟩ o with
  | .val v H1 => cond (Nat.beq H1.n k) (some (v, none)) (match H1.get k with
    | some ob => some (v, some ob)
    | none => none)
  | _ => none

/-- Operations in an order of this machine's. Object k + i is kept for operation i. 'snaps': the heap ahead of each loud one so far. -/
def runDraw (T : Tab) (ev : Ev) (fuel : Nat) (ops : Array Oper) (bef : Array Nat) (k : Nat) : List Nat → List (Nat × Heap) → A → Heap → Option (A × Heap)
  | [], _, a, H => some (a, H)
  | i :: rest, snaps, a, H => match ops[i]? with
    | none => none
    | some o => cond (wanted ops a o) (
        cond (quiet o.op) (match quietAt T a (k + i) o.op with
          | some (v, none) => runDraw T ev fuel ops bef k rest snaps (a.put o.dst v) H
          | some (v, some ob) => runDraw T ev fuel ops bef k rest snaps (a.put o.dst v) (H.put (k + i) ob)
          | none => none)
        (cond (reads o.op) (match execOp T a H o.op with
          | .val v H' => cond (stood T a o v (bef.getD i 0) snaps) (runDraw T ev fuel ops bef k rest snaps (a.put o.dst v) H') none
          | _ => none)
        (match execOp T a H o.op with
          | .val v H' => runDraw T ev fuel ops bef k rest ((i, H) :: snaps) (a.put o.dst v) H'
          | .call f args => match calls T ev fuel f args H with
            | .returned v H' => runDraw T ev fuel ops bef k rest ((i, H) :: snaps) (a.put o.dst v) H'
            | _ => none
          | .round l args => match round ev l args H with
            | .returned v H' => runDraw T ev fuel ops bef k rest ((i, H) :: snaps) (a.put o.dst v) H'
            | _ => none
          | _ => none))) (runDraw T ev fuel ops bef k rest snaps (a.put o.dst undefV) H)

/-- The heap with n objects' places kept. -/
def Heap.keep (H : Heap) (n : Nat) : Heap := ⟨H.n + n, H.t⟩
def Heap.clean (H : Heap) (n : Nat) : Bool := (List.range n).all fun i => (H.t.get (H.n + i)).isNone

def step (T : Tab) (ev : Ev) (fuel : Nat) : Ev := fun rho c a H =>
  match c with
  | .skip => some (.normal, a, H)
  | .label _ => some (.normal, a, H)
  | .ret => some (.ret, a, H)
  | .exit id => some (.exit id, a, H)
  | .seq x y => match ev rho x a H with
    | some (.normal, a', H') => ev rho y a' H'
    | r => r
  | .cond x y z => match a.eval x with
    | some (.bool true) => ev rho y a H
    | some (.bool false) => ev rho z a H
    | _ => none
  | .block id b => match ev rho b a H with
    | some (.exit j, a', H') => cond (Nat.beq j id) (some (.normal, a', H')) (some (.exit j, a', H'))
    | r => r
  | .loop b => match ev rho b a H with
    | some (.normal, a', H') => ev rho (.loop b) a' H'
    | r => r
  | .scope b => match ev rho b a H with
    | some (.goto _, _, _) => none
    | r => r
  | .region _ ops false => runOps T ev fuel rho ops (List.range ops.size) a H
  | .region _ ops true => cond (drawOk ops && H.clean ops.size) (match runDraw T ev fuel ops (Region.before ops) H.n (sched ops (Region.before ops)) [] a (H.keep ops.size) with
    | some (a', H') => some (.normal, a', H')
    | none => none) none
  | .rangeFunc f params assign body =>
    match a.eval f with
    | none => none
    | some g =>
      match (match rho with
        | none => some (H.n, [D.collected H.n], H.push (.deferred (some [])))
        | some l => match H.get l with
          | some (.loop _ _ _ _ _ _ _ ds) => some (ds, [], H)
          | _ => none : Option (Nat × List D × Heap)) with
      | none => none
      | some (ds, mark, H1) =>
        match callee g [.func (.yield H1.n) [] []] with
        | .call k args => cond (T.prim k).isSome none (match calls T ev fuel k args (H1.push (.loop .ready none 0 a.tmps params.toList assign body ds)) with
          | .returned _ H2 => match H2.get H1.n with
            | some (.loop st p fn tmps ps as bo ds') =>
              cond (match st with | .busy => true | _ => false) none (
                let H3 := H2.put H1.n (.loop .exhausted p fn tmps ps as bo ds')
                let a' : A := ⟨a.tmps, mark ++ a.defers⟩
                match p with
                | none => some (.normal, a', H3)
                | some .ret => some (.ret, a', H3)
                | some (.exit id) => some (.exit id, a', H3)
                | some _ => none)
            | _ => none
          | _ => none)
        | _ => none
  | _ => none

def ev (T : Tab) : Nat → Ev
  | 0 => fun _ _ _ _ => none
  | n + 1 => step T (ev T n) n

/-- A call of function f. -/
def run (T : Tab) (n : Nat) (f : FuncId) (args : List V) (H : Heap) : CR := calls T (ev T n) n f args H

def Heap.empty : Heap := ⟨0, .leaf⟩

/-! ### The tables of a program -/
def eqF (eq : TypeId → V → V → Option Bool) (T : Tab) (xs ys : List V) : List Field → Option Bool
  | [] => some true
  | f :: fs => cond (f.name == "_") none (match part T f.type xs f.offset, part T f.type ys f.offset with
    | some x, some y => match eq f.type x y with
      | some true => eqF eq T xs ys fs
      | some false => some false
      | none => none
    | _, _ => none)

/-- '==' in depth. -/
def eqV (P : Program) (T : Tab) : Nat → TypeId → V → V → Option Bool
  | 0, _, _, _ => none
  | d + 1, t, x, y => match T.und t with
    | some .bool => match x, y with
      | .bool a, .bool b => some (a == b)
      | _, _ => none
    | some (.int _) => match x, y with
      | .int j a, .int k b => cond (decide (j = k)) (some (decide (a = b))) none
      | _, _ => none
    | some .string => match x, y with
      | .str a, .str b => some (a == b)
      | _, _ => none
    | some (.struct fs) => match x, y with
      | .agg xs, .agg ys => cond (P.stoodInHeld t) none (eqF (eqV P T d) T xs ys fs.toList)
      | _, _ => none
    | _ => none

def tab0 (P : Program) : Tab where
  und := P.underlying
  size t := (P.info? t).map fun i => (i.size, i.bytes)
  zero t := match P.info? t with
    | some i => match i.zero with
      | some z => match ofVal z with
        | some v => some v.cells
        | none => none
      | none => none
    | none => none
  zeroV t := match P.info? t with
    | some i => match i.zero with
      | some z => ofVal z
      | none => none
    | none => none
  eqS _ _ _ := none
  func f := P.funcs[f]?
  meth t name := match P.info? t with
    | some i => match i.methods.find? (·.name == name) with
      | some m => match m.func with
        | some (f, p) => some (m.path.toList, f, p)
        | none => none
      | none => none
    | none => none
  prim _ := none

def tabOf (P : Program) (prim : FuncId → Option (List V → Heap → Option (V × Heap))) : Tab :=
  { tab0 P with
    eqS := fun t xs ys => cond (P.eqGuardType P.depth t) none (eqV P (tab0 P) 9 t (.agg xs) (.agg ys))
    prim := prim }

end
end Go.Am
