import Derived.Test.YtkjknmdnehknbaaAmTr
import Derived.RangeFuncRecord
import Derived.RangeFuncLeaves
import Derived.RecoverIn
import Derived.OrdersIn
import Derived.Below
/- How the small machine's values and heap stand to the model's: the relation, and how it is kept. -/
namespace Go.Am
open Go

/-- Where an object lies: block, first cell, the cell behind its last. -/
abbrev Mu := Nat → Option (Nat × Nat × Nat)

mutual
inductive RV (μ : Mu) : V → Value → Prop
  | bool (b : Bool) : RV μ (.bool b) (.bool b)
  | int (k : IntKind) (n : Int) : RV μ (.int k n) (.int k n)
  | str (s : List UInt8) : RV μ (.str s) (.string ⟨⟨s⟩⟩)
  | ptr {l o b base tot : Nat} (h : μ l = some (b, base, tot)) : RV μ (.ptr l o) (.pointer (some ⟨b, base + o, none⟩))
  | nilPtr : RV μ .nilPtr (.pointer none)
  | slice {l o n s : Nat} {c : Option Nat} {b base tot cap off : Nat} (h : μ l = some (b, base, tot)) (hn : n ≤ cap) (hc : ∀ m, c = some m → cap = m)
      (ht : base + o + cap * s ≤ tot) (ho : cap = 0 ∨ off = base + o) : RV μ (.slice l o n s c) (.slice (some ⟨b, off, none⟩) n cap)
  | nilSlice : RV μ .nilSlice (.slice none 0 0)
  | map {r b x y : Nat} (h : μ r = some (b, x, y)) : RV μ (.map r) (.map (some b))
  | nilMap : RV μ .nilMap (.map none)
  | func {f : FuncId} {us vs : List V} {us' vs' : List Value} (h1 : RVL μ us us') (h2 : RVL μ vs vs') : RV μ (.func (.func f) us vs) (.func (.func f) ⟨us'⟩ ⟨vs'⟩)
  | yield {l b x y : Nat} (h : μ l = some (b, x, y)) : RV μ (.func (.yield l) [] []) (.func (.yield b) #[] #[])
  | nilFunc : RV μ .nilFunc .nilFunc
  | iface {t : TypeId} {v : V} {u : Value} (h : RV μ v u) : RV μ (.iface t v) (.iface t u)
  | nilIface : RV μ .nilIface .nilIface
  | agg {cs : List V} {us : List Value} (h : RVL μ cs us) : RV μ (.agg cs) (.agg ⟨us⟩)
  | tuple {cs : List V} {us : List Value} (h : RVL μ cs us) : RV μ (.tuple cs) (.tuple ⟨us⟩)
inductive RVL (μ : Mu) : List V → List Value → Prop
  | nil : RVL μ [] []
  | cons {v : V} {u : Value} {vs : List V} {us : List Value} (h : RV μ v u) (t : RVL μ vs us) : RVL μ (v :: vs) (u :: us)
end

theorem RV.undef (μ : Mu) : RV μ undefV Go.undef := .tuple .nil

mutual
theorem RV.mono {μ μ' : Mu} (hm : ∀ l x, μ l = some x → μ' l = some x) : ∀ {v : V} {u : Value}, RV μ v u → RV μ' v u
  | _, _, .bool b => .bool b
  | _, _, .int k n => .int k n
  | _, _, .str s => .str s
  | _, _, .ptr h => .ptr (hm _ _ h)
  | _, _, .nilPtr => .nilPtr
  | _, _, .slice h hn hc ht ho => .slice (hm _ _ h) hn hc ht ho
  | _, _, .nilSlice => .nilSlice
  | _, _, .map h => .map (hm _ _ h)
  | _, _, .nilMap => .nilMap
  | _, _, .func h1 h2 => .func (RVL.mono hm h1) (RVL.mono hm h2)
  | _, _, .yield h => .yield (hm _ _ h)
  | _, _, .nilFunc => .nilFunc
  | _, _, .iface h => .iface (RV.mono hm h)
  | _, _, .nilIface => .nilIface
  | _, _, .agg h => .agg (RVL.mono hm h)
  | _, _, .tuple h => .tuple (RVL.mono hm h)
theorem RVL.mono {μ μ' : Mu} (hm : ∀ l x, μ l = some x → μ' l = some x) : ∀ {v : List V} {u : List Value}, RVL μ v u → RVL μ' v u
  | _, _, .nil => .nil
  | _, _, .cons h t => .cons (RV.mono hm h) (RVL.mono hm t)
end

mutual
theorem RV.ofVal (μ : Mu) : ∀ {u : Value} {v : V}, ofVal u = some v → RV μ v u
  | .bool b, _, h => by simp only [Am.ofVal, Option.some.injEq] at h; subst h; exact .bool b
  | .int k n, _, h => by simp only [Am.ofVal, Option.some.injEq] at h; subst h; exact .int k n
  | .string ⟨⟨s⟩⟩, _, h => by simp only [Am.ofVal, Option.some.injEq] at h; subst h; exact .str s
  | .pointer none, _, h => by simp only [Am.ofVal, Option.some.injEq] at h; subst h; exact .nilPtr
  | .pointer (some _), _, h => by simp [Am.ofVal] at h
  | .slice none 0 0, _, h => by simp only [Am.ofVal, Option.some.injEq] at h; subst h; exact .nilSlice
  | .slice none 0 (_ + 1), _, h => by simp [Am.ofVal] at h
  | .slice none (_ + 1) _, _, h => by simp [Am.ofVal] at h
  | .slice (some _) _ _, _, h => by simp [Am.ofVal] at h
  | .map none, _, h => by simp only [Am.ofVal, Option.some.injEq] at h; subst h; exact .nilMap
  | .map (some _), _, h => by simp [Am.ofVal] at h
  | .nilFunc, _, h => by simp only [Am.ofVal, Option.some.injEq] at h; subst h; exact .nilFunc
  | .nilIface, _, h => by simp only [Am.ofVal, Option.some.injEq] at h; subst h; exact .nilIface
  | .agg ⟨cs⟩, _, h => by
    simp only [Am.ofVal, Option.map_eq_some_iff] at h
    obtain ⟨xs, h1, rfl⟩ := h
    exact .agg (RVL.ofVals μ h1)
  | .tuple ⟨cs⟩, _, h => by
    simp only [Am.ofVal, Option.map_eq_some_iff] at h
    obtain ⟨xs, h1, rfl⟩ := h
    exact .tuple (RVL.ofVals μ h1)
  | .iface t v, _, h => by
    simp only [Am.ofVal, Option.map_eq_some_iff] at h
    obtain ⟨x, h1, rfl⟩ := h
    exact .iface (RV.ofVal μ h1)
  | .float _ _, _, h => by simp [Am.ofVal] at h
  | .complex _ _ _, _, h => by simp [Am.ofVal] at h
  | .chan _, _, h => by simp [Am.ofVal] at h
  | .func _ _ _, _, h => by simp [Am.ofVal] at h
theorem RVL.ofVals (μ : Mu) : ∀ {us : List Value} {vs : List V}, ofVals us = some vs → RVL μ vs us
  | [], _, h => by simp only [Am.ofVals, Option.some.injEq] at h; subst h; exact .nil
  | u :: us, _, h => by
    simp only [Am.ofVals] at h
    split at h
    · cases h
    · rename_i x hx
      split at h
      · cases h
      · rename_i xs hxs
        simp only [Option.some.injEq] at h
        subst h
        exact .cons (RV.ofVal μ hx) (RVL.ofVals μ hxs)
end

theorem RVL.length {μ : Mu} : ∀ {vs : List V} {us : List Value}, RVL μ vs us → us.length = vs.length
  | _, _, .nil => rfl
  | _, _, .cons _ t => by simp [RVL.length t]
theorem RVL.get {μ : Mu} : ∀ {vs : List V} {us : List Value}, RVL μ vs us → ∀ {i : Nat} {v : V}, vs[i]? = some v → ∃ u, us[i]? = some u ∧ RV μ v u
  | _, _, .nil, i, v, h => by simp at h
  | _, _, .cons (u := u) h t, 0, v, e => by simp at e; subst e; exact ⟨u, rfl, h⟩
  | _, _, .cons h t, i + 1, v, e => by simp at e; simpa using t.get e
theorem RVL.of_get {μ : Mu} : ∀ {vs : List V} {us : List Value}, us.length = vs.length → (∀ (i : Nat) (v : V), vs[i]? = some v → ∃ u, us[i]? = some u ∧ RV μ v u) → RVL μ vs us
  | [], [], _, _ => .nil
  | [], _ :: _, h, _ => by simp at h
  | _ :: _, [], h, _ => by simp at h
  | v :: vs, u :: us, h, f => by
    obtain ⟨u', e, r⟩ := f 0 v rfl
    simp at e; subst e
    exact .cons r (RVL.of_get (by simpa using h) fun i v' hv => by simpa using f (i + 1) v' (by simpa using hv))
theorem RVL.append {μ : Mu} : ∀ {as bs : List V} {as' bs' : List Value}, RVL μ as as' → RVL μ bs bs' → RVL μ (as ++ bs) (as' ++ bs')
  | _, _, _, _, .nil, h => h
  | _, _, _, _, .cons h t, k => .cons h (t.append k)
theorem RVL.take {μ : Mu} : ∀ {as : List V} {as' : List Value} (n : Nat), RVL μ as as' → RVL μ (as.take n) (as'.take n)
  | _, _, 0, _ => by simpa using RVL.nil
  | _, _, n + 1, .nil => by simpa using RVL.nil
  | _, _, n + 1, .cons h t => .cons h (t.take n)
theorem RVL.drop {μ : Mu} : ∀ {as : List V} {as' : List Value} (n : Nat), RVL μ as as' → RVL μ (as.drop n) (as'.drop n)
  | _, _, 0, h => h
  | _, _, n + 1, .nil => by simpa using RVL.nil
  | _, _, n + 1, .cons h t => t.drop n

/-! ### Temporaries -/
structure TsR (μ : Mu) (s : Ts) (a : Array Value) : Prop where
  size : a.size = s.n
  get : ∀ i, RV μ (s.get i) (a.getD i Go.undef)

theorem TsR.mono {μ μ' : Mu} (hm : ∀ l x, μ l = some x → μ' l = some x) {s : Ts} {a : Array Value} (h : TsR μ s a) : TsR μ' s a := ⟨h.size, fun i => (h.get i).mono hm⟩
theorem TsR.put {μ : Mu} {s : Ts} {a : Array Value} (h : TsR μ s a) {v : V} {u : Value} (hv : RV μ v u) (i : Nat) : TsR μ (s.put i v) (a.setIfInBounds i u) := by
  refine ⟨by simp [h.size], fun j => ?_⟩
  rw [Ts.get_put]
  by_cases e : i = j ∧ i < s.n
  · obtain ⟨rfl, hi⟩ := e
    rw [if_pos ⟨rfl, hi⟩, Array.getD_eq_getD_getElem?, Array.getElem?_setIfInBounds, if_pos rfl, if_pos (by rw [h.size]; exact hi)]
    exact hv
  · rw [if_neg e, Array.getD_eq_getD_getElem?, Array.getElem?_setIfInBounds]
    have hj := h.get j
    rw [Array.getD_eq_getD_getElem?] at hj
    by_cases e2 : i = j
    · subst e2
      have : ¬ i < a.size := by rw [h.size]; exact fun h' => e ⟨rfl, h'⟩
      rw [if_pos rfl, if_neg this]
      rw [Array.getElem?_eq_none (by omega)] at hj
      exact hj
    · rw [if_neg e2]; exact hj

inductive DR (μ : Mu) : D → Deferred → Prop
  | fn {f : FuncId} {args : List V} {as cap : List Value} (h : RVL μ args (as ++ cap)) : DR μ (.fn f args) { target := .fn (.func f) ⟨cap⟩, args := ⟨as⟩ }
  | collected {r b x y : Nat} (h : μ r = some (b, x, y)) : DR μ (.collected r) { target := .collected b, args := #[] }
inductive DRL (μ : Mu) : List D → List Deferred → Prop
  | nil : DRL μ [] []
  | cons {d : D} {e : Deferred} {ds : List D} {es : List Deferred} (h : DR μ d e) (t : DRL μ ds es) : DRL μ (d :: ds) (e :: es)
theorem DR.mono {μ μ' : Mu} (hm : ∀ l x, μ l = some x → μ' l = some x) {d : D} {e : Deferred} : DR μ d e → DR μ' d e
  | .fn h => .fn (h.mono hm)
  | .collected h => .collected (hm _ _ h)
theorem DRL.mono {μ μ' : Mu} (hm : ∀ l x, μ l = some x → μ' l = some x) : ∀ {ds : List D} {es : List Deferred}, DRL μ ds es → DRL μ' ds es
  | _, _, .nil => .nil
  | _, _, .cons h t => .cons (h.mono hm) (t.mono hm)
theorem DRL.append {μ : Mu} : ∀ {as bs : List D} {as' bs' : List Deferred}, DRL μ as as' → DRL μ bs bs' → DRL μ (as ++ bs) (as' ++ bs')
  | _, _, _, _, .nil, h => h
  | _, _, _, _, .cons h t, k => .cons h (t.append k)

structure AR (μ : Mu) (a : A) (x : Act) : Prop where
  tmps : TsR μ a.tmps x.tmps
  defers : DRL μ a.defers x.defers
theorem AR.mono {μ μ' : Mu} (hm : ∀ l x, μ l = some x → μ' l = some x) {a : A} {x : Act} (h : AR μ a x) : AR μ' a x := ⟨h.tmps.mono hm, h.defers.mono hm⟩
theorem AR.put {μ : Mu} {a : A} {x : Act} (h : AR μ a x) {v : V} {u : Value} (hv : RV μ v u) (d : Option Tmp) : AR μ (a.put d v) (x.put d u) := by
  cases d with
  | none => exact h
  | some d => exact ⟨h.tmps.put hv d, h.defers⟩
theorem AR.eval {μ : Mu} {a : A} {x : Act} (h : AR μ a x) {o : Operand} {v : V} (he : a.eval o = some v) : RV μ v (x.eval o) := by
  cases o with
  | tmp t => simp only [A.eval, Option.some.injEq] at he; subst he; exact h.tmps.get t
  | const c => exact RV.ofVal μ he
  | global g => simp [A.eval] at he
  | func f => simp only [A.eval, Option.some.injEq] at he; subst he; exact .func .nil .nil
theorem AR.evals {μ : Mu} {a : A} {x : Act} (h : AR μ a x) : ∀ {os : List Operand} {vs : List V}, evals a os = some vs → RVL μ vs (os.map x.eval)
  | [], _, e => by simp only [Am.evals, Option.some.injEq] at e; subst e; exact .nil
  | o :: os, _, e => by
    simp only [Am.evals] at e
    split at e
    · cases e
    · rename_i v hv
      split at e
      · cases e
      · rename_i vs hvs
        simp only [Option.some.injEq] at e; subst e
        exact .cons (h.eval hv) (h.evals hvs)

/-! ### Objects and the heap -/
inductive MR (μ : Mu) : List (V × V) → List MapEntry → Prop
  | nil : MR μ [] []
  | cons {k v : V} {e : MapEntry} {es : List (V × V)} {fs : List MapEntry} (hk : RV μ k e.key) (hv : RV μ v e.val) (t : MR μ es fs) : MR μ ((k, v) :: es) (e :: fs)
theorem MR.mono {μ μ' : Mu} (hm : ∀ l x, μ l = some x → μ' l = some x) : ∀ {es : List (V × V)} {fs : List MapEntry}, MR μ es fs → MR μ' es fs
  | _, _, .nil => .nil
  | _, _, .cons hk hv t => .cons (hk.mono hm) (hv.mono hm) (t.mono hm)
theorem MR.length {μ : Mu} : ∀ {es : List (V × V)} {fs : List MapEntry}, MR μ es fs → fs.length = es.length
  | _, _, .nil => rfl
  | _, _, .cons _ _ t => by simp [MR.length t]

/-- Cells: an object's over a block's. -/
structure CellsR (μ : Mu) (ro : Bool) (vs : List V) (base tot : Nat) (cs : Array Value) (fr : Nat × Nat) : Prop where
  len : base + vs.length ≤ tot
  room : tot ≤ cs.size
  cell : ∀ (j : Nat) (v : V), vs[j]? = some v → ∃ u, cs[base + j]? = some u ∧ RV μ v u
  free : ro = false → fr.1 = fr.2 ∨ cs.size ≤ fr.1
theorem CellsR.thaw {μ : Mu} {ro : Bool} {vs : List V} {base tot : Nat} {cs : Array Value} {fr : Nat × Nat} (h : CellsR μ ro vs base tot cs fr) (hro : ro = false) {j : Nat} (hj : j < tot) : (decide (fr.1 ≤ j) && decide (j < fr.2)) = false := by
  have h1 := h.room
  rcases h.free hro with h2 | h2 <;> simp <;> omega

def ObjR (μ : Mu) (w : World) (l : Nat) : O → Prop
  | .cells ro vs => ∃ b base tot cs ty fr, μ l = some (b, base, tot) ∧ w.heap[b]? = some (.cells cs ty fr) ∧ CellsR μ ro vs base tot cs fr
  | .stale => True
  | .map es => ∃ b x y fs clock, μ l = some (b, x, y) ∧ w.heap[b]? = some (.map fs clock) ∧ MR μ es fs.toList
  | .loop st p _ tmps ps as bo ds => ∃ b x y r db x' y', μ l = some (b, x, y) ∧ w.heap[b]? = some (.loop r) ∧ r.state = st ∧ r.pending = p ∧ TsR μ tmps r.tmps ∧
      r.params.toList = ps ∧ r.assign = as ∧ r.body = bo ∧ μ ds = some (db, x', y') ∧ r.defers = db
  | .deferred ds => ∃ b x y, μ l = some (b, x, y) ∧ w.heap[b]? = some (.deferred (ds.map fun _ => [])) ∧ ∀ z, ds = some z → z = []

def O.live : O → Bool
  | .stale => false
  | _ => true
def O.own : O → Bool
  | .stale => false
  | .cells ro _ => !ro
  | _ => true
theorem O.live_of_own {o : O} (h : o.own = true) : o.live = true := by cases o <;> simp_all [O.own, O.live]

theorem ObjR.mono {μ μ' : Mu} {w w' : World} {l : Nat} {o : O} (hm : ∀ l x, μ l = some x → μ' l = some x)
    (hb : ∀ b x y, μ l = some (b, x, y) → o.live = true → w'.heap[b]? = w.heap[b]?) (h : ObjR μ w l o) : ObjR μ' w' l o := by
  cases o with
  | cells ro vs =>
    obtain ⟨b, base, tot, cs, ty, fr, h1, h2, h3⟩ := h
    exact ⟨b, base, tot, cs, ty, fr, hm _ _ h1, (hb _ _ _ h1 rfl).trans h2, ⟨h3.len, h3.room, fun j v hv => let ⟨u, e, r⟩ := h3.cell j v hv; ⟨u, e, r.mono hm⟩, h3.free⟩⟩
  | stale => trivial
  | map es =>
    obtain ⟨b, x, y, fs, clock, h1, h2, h3⟩ := h
    exact ⟨b, x, y, fs, clock, hm _ _ h1, (hb _ _ _ h1 rfl).trans h2, h3.mono hm⟩
  | loop st p fn tmps ps as bo ds =>
    obtain ⟨b, x, y, r, db, x', y', h1, h2, h3, h4, h5, h6, h7, h8, h9, h10⟩ := h
    exact ⟨b, x, y, r, db, x', y', hm _ _ h1, (hb _ _ _ h1 rfl).trans h2, h3, h4, h5.mono hm, h6, h7, h8, hm _ _ h9, h10⟩
  | deferred ds =>
    obtain ⟨b, x, y, h1, h2, h3⟩ := h
    exact ⟨b, x, y, hm _ _ h1, (hb _ _ _ h1 rfl).trans h2, h3⟩

/-- A live object has a block. -/
theorem ObjR.block {μ : Mu} {w : World} {l : Nat} {o : O} (h : ObjR μ w l o) (hl : o.live = true) : ∃ b x y, μ l = some (b, x, y) ∧ b < w.heap.size := by
  have key : ∀ {b : Nat} {z : Obj}, w.heap[b]? = some z → b < w.heap.size := fun {b z} e => by
    rcases Nat.lt_or_ge b w.heap.size with h' | h'
    · exact h'
    · rw [Array.getElem?_eq_none h'] at e; cases e
  cases o with
  | cells ro vs => obtain ⟨b, base, tot, cs, ty, fr, h1, h2, _⟩ := h; exact ⟨b, base, tot, h1, key h2⟩
  | stale => simp [O.live] at hl
  | map es => obtain ⟨b, x, y, fs, clock, h1, h2, _⟩ := h; exact ⟨b, x, y, h1, key h2⟩
  | loop st p fn tmps ps as bo ds => obtain ⟨b, x, y, r, db, x', y', h1, h2, _⟩ := h; exact ⟨b, x, y, h1, key h2⟩
  | deferred ds => obtain ⟨b, x, y, h1, h2, _⟩ := h; exact ⟨b, x, y, h1, key h2⟩

structure Sim (μ : Mu) (H : Heap) (w : World) : Prop where
  obj : ∀ l o, H.get l = some o → ObjR μ w l o
  inj : ∀ l l' o o' b x y b' x' y', H.get l = some o → H.get l' = some o' → o.own = true → o'.live = true → μ l = some (b, x, y) → μ l' = some (b', x', y') → b = b' → l = l'
  dom : ∀ l x, μ l = some x → l < H.n

def Owned (μ : Mu) (H : Heap) (b : Nat) : Prop := ∃ l o x y, H.get l = some o ∧ o.own = true ∧ μ l = some (b, x, y)

theorem Sim.owned_lt {μ : Mu} {H : Heap} {w : World} (h : Sim μ H w) {b : Nat} (hb : Owned μ H b) : b < w.heap.size := by
  obtain ⟨l, o, x, y, h1, h2, h3⟩ := hb
  obtain ⟨b', x', y', h4, h5⟩ := (h.obj l o h1).block (O.live_of_own h2)
  rw [h3] at h4; cases h4; exact h5

def Live (μ : Mu) (H : Heap) (b : Nat) : Prop := ∃ l o x y, H.get l = some o ∧ o.live = true ∧ μ l = some (b, x, y)
theorem Owned.live {μ : Mu} {H : Heap} {b : Nat} : Owned μ H b → Live μ H b := fun ⟨l, o, x, y, h1, h2, h3⟩ => ⟨l, o, x, y, h1, O.live_of_own h2, h3⟩

structure Post (μ : Mu) (H : Heap) (w : World) (μ' : Mu) (H' : Heap) (w' : World) : Prop where
  sim : Sim μ' H' w'
  os : w'.os = w.os
  tape : w'.tape = w.tape
  output : w'.output = w.output
  size : w.heap.size ≤ w'.heap.size
  n : H.n ≤ H'.n
  agree : ∀ l, l < H.n → μ' l = μ l
  kept : ∀ b, b < w.heap.size → ¬ Owned μ H b → w'.heap[b]? = w.heap[b]?
  own : ∀ b, b < w.heap.size → Owned μ' H' b → Owned μ H b
  live : ∀ b, b < w.heap.size → Live μ' H' b → Live μ H b
  hole : ∀ l, l < H.n → H.get l = none → H'.get l = none

theorem Post.refl {μ : Mu} {H : Heap} {w : World} (h : Sim μ H w) : Post μ H w μ H w :=
  ⟨h, rfl, rfl, rfl, Nat.le_refl _, Nat.le_refl _, fun _ _ => rfl, fun _ _ _ => rfl, fun _ _ h => h, fun _ _ h => h, fun _ _ h => h⟩

theorem Post.trans {μ μ1 μ2 : Mu} {H H1 H2 : Heap} {w w1 w2 : World} (p : Post μ H w μ1 H1 w1) (q : Post μ1 H1 w1 μ2 H2 w2) : Post μ H w μ2 H2 w2 :=
  ⟨q.sim, q.os.trans p.os, q.tape.trans p.tape, q.output.trans p.output, Nat.le_trans p.size q.size, Nat.le_trans p.n q.n,
   fun l hl => (q.agree l (Nat.lt_of_lt_of_le hl p.n)).trans (p.agree l hl),
   fun b hb hn => (q.kept b (Nat.lt_of_lt_of_le hb p.size) fun ho => hn (p.own b hb ho)).trans (p.kept b hb hn),
   fun b hb ho => p.own b hb (q.own b (Nat.lt_of_lt_of_le hb p.size) ho),
   fun b hb ho => p.live b hb (q.live b (Nat.lt_of_lt_of_le hb p.size) ho),
   fun l hl e => q.hole l (Nat.lt_of_lt_of_le hl p.n) (p.hole l hl e)⟩

theorem Post.ext {μ μ' : Mu} {H H' : Heap} {w w' : World} (hs : Sim μ H w) (p : Post μ H w μ' H' w') : ∀ l x, μ l = some x → μ' l = some x :=
  fun l x h => (p.agree l (hs.dom l x h)).trans h

/-- A draw. -/
theorem Sim.drawn {μ : Mu} {H : Heap} {w : World} (h : Sim μ H w) (n : Nat) : Sim μ H { w with drawn := n } :=
  ⟨fun l o e => (h.obj l o e).mono (fun _ _ k => k) fun _ _ _ _ _ => rfl, h.inj, h.dom⟩
theorem Post.drawn {μ : Mu} {H : Heap} {w : World} (h : Sim μ H w) (n : Nat) : Post μ H w μ H { w with drawn := n } :=
  ⟨h.drawn n, rfl, rfl, rfl, Nat.le_refl _, Nat.le_refl _, fun _ _ => rfl, fun _ _ _ => rfl, fun _ _ h => h, fun _ _ h => h, fun _ _ h => h⟩

def upd (μ : Mu) (l : Nat) (x : Nat × Nat × Nat) : Mu := fun k => if k = l then some x else μ k
theorem upd_ext {μ : Mu} {H : Heap} {w : World} (h : Sim μ H w) (x : Nat × Nat × Nat) : ∀ l y, μ l = some y → upd μ H.n x l = some y := by
  intro l y e
  have := h.dom l y e
  simp only [upd]; rw [if_neg (by omega)]; exact e
theorem upd_same (μ : Mu) (l : Nat) (x : Nat × Nat × Nat) : upd μ l x l = some x := by simp [upd]
theorem upd_other {μ : Mu} {l k : Nat} (x : Nat × Nat × Nat) (h : k ≠ l) : upd μ l x k = μ k := by simp [upd, h]

/-- A new block, and a new object over it. -/
theorem Post.alloc {μ : Mu} {H : Heap} {w : World} (h : Sim μ H w) {o : O} {z : Obj} {x y : Nat}
    (ho : ObjR (upd μ H.n (w.heap.size, x, y)) (w.alloc z) H.n o) : Post μ H w (upd μ H.n (w.heap.size, x, y)) (H.push o) (w.alloc z) := by
  have hext := upd_ext h (w.heap.size, x, y)
  have hold : ∀ k, k < w.heap.size → (w.alloc z).heap[k]? = w.heap[k]? := fun k hk => RowKit.Below.heap_alloc w z k hk
  have hblk : ∀ l o', H.get l = some o' → o'.live = true → ∀ b x' y', μ l = some (b, x', y') → b < w.heap.size := by
    intro l o' e hl b x' y' e2
    obtain ⟨b1, x1, y1, e3, hlt⟩ := (h.obj l o' e).block hl
    rw [e2] at e3; cases e3; exact hlt
  refine ⟨⟨?_, ?_, ?_⟩, rfl, rfl, rfl, by simp, by simp, fun l hl => upd_other _ (by omega), fun b hb _ => hold b hb, ?_, ?_, fun l hl e => by rw [Heap.get_push, if_neg (by omega)]; exact e⟩
  · intro l o' e
    rw [Heap.get_push] at e
    split at e
    · rename_i e2; subst e2; cases e; exact ho
    · exact (h.obj l o' e).mono hext fun b x' y' e2 hl => hold b (hblk l o' e hl b x' y' e2)
  · intro l l' o1 o2 b x1 y1 b' x2 y2 e1 e2 ho1 ho2 m1 m2 hbb
    rw [Heap.get_push] at e1 e2
    split at e1
    · rename_i el; subst el
      rw [upd_same] at m1; cases m1
      split at e2
      · rename_i el2; exact el2.symm
      · rename_i el2
        rw [upd_other _ el2] at m2
        have := hblk l' o2 e2 ho2 b' x2 y2 m2
        omega
    · rename_i el
      rw [upd_other _ el] at m1
      have hb1 := hblk l o1 e1 (O.live_of_own ho1) b x1 y1 m1
      split at e2
      · rename_i el2; subst el2
        rw [upd_same] at m2; cases m2
        omega
      · rename_i el2
        rw [upd_other _ el2] at m2
        exact h.inj l l' o1 o2 b x1 y1 b' x2 y2 e1 e2 ho1 ho2 m1 m2 hbb
  · intro l x' e
    by_cases el : l = H.n
    · subst el; simp
    · rw [upd_other _ el] at e; have := h.dom l x' e; simp; omega
  · intro b hb ⟨l, o', x', y', e1, e2, e3⟩
    rw [Heap.get_push] at e1
    split at e1
    · rename_i el; subst el; rw [upd_same] at e3; cases e3; omega
    · rename_i el; rw [upd_other _ el] at e3; exact ⟨l, o', x', y', e1, e2, e3⟩
  · intro b hb ⟨l, o', x', y', e1, e2, e3⟩
    rw [Heap.get_push] at e1
    split at e1
    · rename_i el; subst el; rw [upd_same] at e3; cases e3; omega
    · rename_i el; rw [upd_other _ el] at e3; exact ⟨l, o', x', y', e1, e2, e3⟩

/-- One block turned, and the object over it. -/
theorem Post.turn {μ : Mu} {H : Heap} {w : World} (h : Sim μ H w) {l : Nat} {o o' : O} {b x y : Nat} (hl : H.get l = some o) (hown : o.own = true)
    (hm : μ l = some (b, x, y)) (z : Obj) (ho : ObjR μ (w.putObj b z) l o') : Post μ H w μ (H.put l o') (w.putObj b z) := by
  have hlt := Heap.lt hl
  refine ⟨⟨?_, ?_, ?_⟩, rfl, rfl, rfl, by simp, by simp, fun _ _ => rfl, ?_, ?_, ?_, fun k hk e => by rw [Heap.get_put hlt, if_neg (fun ek => by rw [ek, hl] at e; cases e)]; exact e⟩
  · intro k ok e
    rw [Heap.get_put hlt] at e
    split at e
    · rename_i ek; subst ek; cases e; exact ho
    · rename_i ek
      refine (h.obj k ok e).mono (fun _ _ q => q) fun b' x' y' m' hlive => World.putObj_heap_other fun eb => ek ?_
      exact (h.inj l k o ok b x y b' x' y' hl e hown hlive hm m' eb.symm).symm
  · intro k k' o1 o2 b1 x1 y1 b2 x2 y2 e1 e2 ho1 ho2 m1 m2 hbb
    rw [Heap.get_put hlt] at e1 e2
    split at e1
    · rename_i ek; subst ek
      split at e2
      · rename_i ek2; exact ek2.symm
      · exact h.inj k k' o o2 b1 x1 y1 b2 x2 y2 hl e2 hown ho2 m1 m2 hbb
    · split at e2
      · rename_i ek2; subst ek2
        exact h.inj k k' o1 o b1 x1 y1 b2 x2 y2 e1 hl ho1 (O.live_of_own hown) m1 m2 hbb
      · exact h.inj k k' o1 o2 b1 x1 y1 b2 x2 y2 e1 e2 ho1 ho2 m1 m2 hbb
  · intro k x' e; simpa using h.dom k x' e
  · intro b' _ hn
    exact World.putObj_heap_other fun e => hn ⟨l, o, x, y, hl, hown, e ▸ hm⟩
  · intro b' _ ⟨k, ok, x', y', e1, e2, e3⟩
    rw [Heap.get_put hlt] at e1
    split at e1
    · rename_i ek; subst ek; exact ⟨k, o, x', y', hl, hown, e3⟩
    · exact ⟨k, ok, x', y', e1, e2, e3⟩
  · intro b' _ ⟨k, ok, x', y', e1, e2, e3⟩
    rw [Heap.get_put hlt] at e1
    split at e1
    · rename_i ek; subst ek; exact ⟨k, o, x', y', hl, O.live_of_own hown, e3⟩
    · exact ⟨k, ok, x', y', e1, e2, e3⟩

/-- An object is given up; nothing in memory turns. -/
theorem Post.retire {μ : Mu} {H : Heap} {w : World} (h : Sim μ H w) {l : Nat} {o : O} (hl : H.get l = some o) : Post μ H w μ (H.put l .stale) w := by
  have hlt := Heap.lt hl
  refine ⟨⟨?_, ?_, ?_⟩, rfl, rfl, rfl, Nat.le_refl _, by simp, fun _ _ => rfl, fun _ _ _ => rfl, ?_, ?_, fun k hk e => by rw [Heap.get_put hlt, if_neg (fun ek => by rw [ek, hl] at e; cases e)]; exact e⟩
  · intro k ok e
    rw [Heap.get_put hlt] at e
    split at e
    · cases e; trivial
    · exact h.obj k ok e
  · intro k k' o1 o2 b1 x1 y1 b2 x2 y2 e1 e2 ho1 ho2 m1 m2 hbb
    rw [Heap.get_put hlt] at e1 e2
    split at e1
    · cases e1; simp [O.own] at ho1
    · split at e2
      · cases e2; simp [O.live] at ho2
      · exact h.inj k k' o1 o2 b1 x1 y1 b2 x2 y2 e1 e2 ho1 ho2 m1 m2 hbb
  · intro k x' e; simpa using h.dom k x' e
  · intro b' _ ⟨k, ok, x', y', e1, e2, e3⟩
    rw [Heap.get_put hlt] at e1
    split at e1
    · cases e1; simp [O.own] at e2
    · exact ⟨k, ok, x', y', e1, e2, e3⟩
  · intro b' _ ⟨k, ok, x', y', e1, e2, e3⟩
    rw [Heap.get_put hlt] at e1
    split at e1
    · cases e1; simp [O.live] at e2
    · exact ⟨k, ok, x', y', e1, e2, e3⟩

/-- An object is given up, and its block goes to a new one, its cells turned. -/
theorem Post.regrow {μ : Mu} {H : Heap} {w : World} (h : Sim μ H w) {l : Nat} {o o' : O} {b x y x' y' : Nat} (hl : H.get l = some o) (hown : o.own = true)
    (hm : μ l = some (b, x, y)) (z : Obj) (ho : ObjR (upd μ H.n (b, x', y')) (w.putObj b z) H.n o') :
    Post μ H w (upd μ H.n (b, x', y')) ((H.put l .stale).push o') (w.putObj b z) := by
  have hlt := Heap.lt hl
  have hext := upd_ext h (b, x', y')
  have hget : ∀ k ok, ((H.put l .stale).push o').get k = some ok → (k = H.n ∧ ok = o') ∨ (k ≠ H.n ∧ k = l ∧ ok = .stale) ∨ (k ≠ H.n ∧ k ≠ l ∧ H.get k = some ok) := by
    intro k ok e
    rw [Heap.get_push, Heap.n_put] at e
    split at e
    · rename_i ek; cases e; exact .inl ⟨ek, rfl⟩
    · rename_i ek
      rw [Heap.get_put hlt] at e
      split at e
      · rename_i ek2; cases e; exact .inr (.inl ⟨ek, ek2, rfl⟩)
      · rename_i ek2; exact .inr (.inr ⟨ek, ek2, e⟩)
  refine ⟨⟨?_, ?_, ?_⟩, rfl, rfl, rfl, by simp, by simp, fun k hk => upd_other _ (by omega), ?_, ?_, ?_, fun k hk e => by rw [Heap.get_push, Heap.n_put, if_neg (by omega), Heap.get_put hlt, if_neg (fun ek => by rw [ek, hl] at e; cases e)]; exact e⟩
  · intro k ok e
    rcases hget k ok e with ⟨rfl, rfl⟩ | ⟨_, _, rfl⟩ | ⟨_, ek, e'⟩
    · exact ho
    · trivial
    · exact (h.obj k ok e').mono hext fun b' x1 y1 m' hlive => World.putObj_heap_other fun eb => ek (h.inj l k o ok b x y b' x1 y1 hl e' hown hlive hm m' eb.symm).symm
  · intro k k' o1 o2 b1 x1 y1 b2 x2 y2 e1 e2 ho1 ho2 m1 m2 hbb
    rcases hget k o1 e1 with ⟨rfl, rfl⟩ | ⟨_, _, rfl⟩ | ⟨en, ek, e1'⟩
    · rcases hget k' o2 e2 with ⟨rfl, rfl⟩ | ⟨_, _, rfl⟩ | ⟨en2, ek2, e2'⟩
      · rfl
      · simp [O.live] at ho2
      · rw [upd_same] at m1; cases m1; rw [upd_other _ en2] at m2
        exact absurd (h.inj l k' o o2 _ x y b2 x2 y2 hl e2' hown ho2 hm m2 hbb).symm ek2
    · simp [O.own] at ho1
    · rw [upd_other _ en] at m1
      rcases hget k' o2 e2 with ⟨rfl, rfl⟩ | ⟨_, _, rfl⟩ | ⟨en2, ek2, e2'⟩
      · rw [upd_same] at m2; cases m2
        exact absurd (h.inj k l o1 o b1 x1 y1 _ x y e1' hl ho1 (O.live_of_own hown) m1 hm hbb) ek
      · simp [O.live] at ho2
      · rw [upd_other _ en2] at m2
        exact h.inj k k' o1 o2 b1 x1 y1 b2 x2 y2 e1' e2' ho1 ho2 m1 m2 hbb
  · intro k x1 e
    by_cases el : k = H.n
    · subst el; simp
    · rw [upd_other _ el] at e; have := h.dom k x1 e; simp; omega
  · intro b' _ hn
    exact World.putObj_heap_other fun e => hn ⟨l, o, x, y, hl, hown, e ▸ hm⟩
  · intro b' _ ⟨k, ok, x1, y1, e1, e2, e3⟩
    rcases hget k ok e1 with ⟨rfl, rfl⟩ | ⟨_, _, rfl⟩ | ⟨en, ek, e1'⟩
    · rw [upd_same] at e3; cases e3; exact ⟨l, o, x, y, hl, hown, hm⟩
    · simp [O.own] at e2
    · rw [upd_other _ en] at e3; exact ⟨k, ok, x1, y1, e1', e2, e3⟩
  · intro b' _ ⟨k, ok, x1, y1, e1, e2, e3⟩
    rcases hget k ok e1 with ⟨rfl, rfl⟩ | ⟨_, _, rfl⟩ | ⟨en, ek, e1'⟩
    · rw [upd_same] at e3; cases e3; exact ⟨l, o, x, y, hl, O.live_of_own hown, hm⟩
    · simp [O.live] at e2
    · rw [upd_other _ en] at e3; exact ⟨k, ok, x1, y1, e1', e2, e3⟩

end Go.Am
