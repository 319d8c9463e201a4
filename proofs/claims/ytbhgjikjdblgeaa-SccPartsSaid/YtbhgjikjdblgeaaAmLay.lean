import Derived.Test.YtbhgjikjdblgeaaAmF
import Derived.Test.YtbhgjikjdblgeaaWpB
import Derived.ChangeSlices
import Derived.OpenShut
import Derived.Sort.Grow
import Derived.Sort.Row
import Derived.Lib.SlicesCompact
set_option linter.unusedSimpArgs false
set_option linter.unusedVariables false
/- Arguments: how what a law takes is laid into the small machine's heap; and what a law's walk says of the program. No conditions. -/
namespace Go.Am
open Go Go.ChangeShapes
variable {P : Program} {T : Tab} {μ : Mu} {H : Heap} {w w' : World}
def Still (H : Heap) : Prop := ∀ l o, H.get l = some o → o.own = false
structure Laid (μ : Mu) (H : Heap) (w : World) : Prop where
 sim : Sim μ H w
 quiet : Still H
 wf : H.WF
theorem laid_none (w : World) : Laid (fun _ => none) Heap.empty w := ⟨sim_none w, fun l o e => by (rw [empty_get] at e; cases e), fun l hl => leaf_get 0 l⟩
theorem Laid.push (h : Laid μ H w) {b base tot : Nat} {vs : List V} {cs : Array Value} {ty : TypeId} {fr : Nat × Nat} (hb : w.heap[b]? = some (.cells cs ty fr)) (hc : CellsR μ true vs base tot cs fr) :
  Laid (upd μ H.n (b, base, tot)) (H.push (.cells true vs)) w := by
 have hext := upd_ext h.sim (b, base, tot)
 have hq : Still (H.push (.cells true vs)) := by
  intro l o e
  rw [Heap.get_push] at e
  split at e
  · cases e; rfl
  · exact h.quiet l o e
 refine ⟨⟨?_, ?_, ?_⟩, hq, h.wf.push _⟩
 · intro l o e
   rw [Heap.get_push] at e
   split at e
   · rename_i el; subst el; cases e
     exact ⟨b, base, tot, cs, ty, fr, upd_same _ _ _, hb, ⟨hc.len, hc.room, fun j v hv => let ⟨u, e, r⟩ := hc.cell j v hv; ⟨u, e, r.mono hext⟩, fun e => by cases e⟩⟩
   · exact (h.sim.obj l o e).mono hext fun _ _ _ _ _ => rfl
 · intro l l' o o' b1 x y b2 x' y' e1 e2 ho
   rw [hq l o e1] at ho; cases ho
 · intro l x e
   by_cases el : l = H.n
   · subst el; simp
   · rw [upd_other _ el] at e
     have := h.sim.dom l x e
     simp; omega
theorem Laid.ints {K : Type} {enc : TypeId × Value → K} (h : Laid μ H w) {base : Nat} {t e : TypeId} {u : Value} {d : DataW K} {ps : List MemPlace} (ht : P.underlying t = some (.slice e)) (he : P.underlying e = some (.int .i64)) (hc : P.cellsOf e = 1)
  (hv : Value.okWide P w .any base t u) (hd : DataW.Trod enc P w 0 (fun _ => true) true t u d ps) :
  ∃ (xs : List Int) (v : V) (μ' : Mu) (H' : Heap), Laid μ' H' w ∧ Ext H H' ∧ (∀ l x, μ l = some x → μ' l = some x) ∧ RV μ' v u ∧ Sl H' v 1 (xs.map fun z => [V.int .i64 z]) ∧ ∀ z, z ∈ xs → (Lit.int .i64 z).wf = true := by
 have hshape : ∀ (t : TypeId) (v : Value), v.cells.toList = [v] ∨ ∃ cs, v = .agg cs := by
  intro t v; cases v <;> first | exact .inl rfl | exact .inr ⟨_, rfl⟩
 obtain ⟨fuel, hd⟩ := hd
 have hcell : Cell.ok P w .any base t u := by
  unfold Value.okWide at hv
  simp only [ht] at hv
  unfold Cell.okWide at hv
  simp only [ht] at hv
  exact hv
 unfold Cell.ok at hcell
 simp only [ht] at hcell
 rcases open_ints ht he hc hd with ⟨h1, h2⟩ | ⟨a, len, cap, zs, h1, h2, h3, h4, h5, h6, h7, h8⟩
 · have hu : u = .slice none 0 0 := by
    rcases hshape t u with h' | ⟨cs, rfl⟩
    · rw [h'] at h1; simpa using h1
    · simp at hcell
   subst hu
   exact ⟨[], .nilSlice, μ, H, h, Ext.refl h.wf, fun _ _ h => h, .nilSlice, Sl.nil _ _, by simp⟩
 · have hu : u = .slice (some a) len cap := by
    rcases hshape t u with h' | ⟨cs, rfl⟩
    · rw [h'] at h1; simpa using h1
    · simp at hcell
   subst hu
   simp only [if_true] at h5
   simp only at hcell
   obtain ⟨_, _, _, hspot, row, cells, hsh, _⟩ := hcell
   obtain ⟨b, off, spot⟩ := a
   simp only at hspot
   subst hspot
   simp only [World.shape?] at hsh
   split at hsh
   · rename_i cs el fr hb
     have hz : ∀ i, i < zs.length → cs[off + i]? = some (.int .i64 (zs.getD i 0)) := by
      intro i hi
      have := h7 i hi
      rw [Go.WideShapes.add_plain] at this
      simp only [World.cell?, hb] at this
      simpa using this
     have hlen : len ≤ zs.length := by omega
     by_cases hcap : cap = 0
     · have hl0 : len = 0 := by omega
       subst hcap
       subst hl0
       refine ⟨[], .slice H.n 0 0 1 none, _, _, h.push (b := b) (base := 0) (tot := 0) (vs := []) hb ⟨by simp, Nat.zero_le _, by simp, fun h => by cases h⟩, (Ext.refl h.wf).push _, upd_ext h.sim _, ?_, ?_, by simp⟩
       · exact .slice (b := b) (base := 0) (tot := 0) (cap := 0) (off := off) (upd_same _ _ _) (Nat.le_refl _) (fun m hm => by cases hm) (by simp) (.inl rfl)
       · exact ⟨by simp, .inr ⟨H.n, 0, none, true, [], rfl, by simp [Heap.get_push], rfl, fun m hm => by cases hm⟩⟩
     · have hroom : off + cap ≤ cs.size := by
        have := hz (cap - 1) (by omega)
        rcases Nat.lt_or_ge (off + (cap - 1)) cs.size with h' | h'
        · omega
        · rw [Array.getElem?_eq_none h'] at this; cases this
       have hfl : ∀ l : List Int, (l.map fun z => [V.int .i64 z]).flatten = l.map fun z => V.int .i64 z := by
        intro l; induction l with
        | nil => rfl
        | cons x l ih => simp [ih]
       refine ⟨zs.take len, .slice H.n 0 len 1 none, _, _, h.push (b := b) (base := off) (tot := off + cap) (vs := (zs.take len).map fun z => V.int .i64 z) hb ⟨by simp; omega, hroom, ?_, fun h => by cases h⟩, (Ext.refl h.wf).push _, upd_ext h.sim _, ?_, ?_, fun z hz => h8 z (List.mem_of_mem_take hz)⟩
       · intro j v hj
         rw [List.getElem?_map, Option.map_eq_some_iff] at hj
         obtain ⟨z, hz1, rfl⟩ := hj
         have hjl : j < len := by
          rcases Nat.lt_or_ge j len with h' | h'
          · exact h'
          · rw [List.getElem?_eq_none (by simp; omega)] at hz1; cases hz1
         refine ⟨_, hz j (by omega), ?_⟩
         have : zs.getD j 0 = z := by
          rw [List.getElem?_take_of_lt hjl] at hz1
          simp [List.getD_eq_getElem?_getD, hz1]
         rw [this]; exact .int _ _
       · exact .slice (b := b) (base := off) (tot := off + cap) (cap := cap) (off := off) (upd_same _ _ _) h3 (fun m hm => by cases hm) (by omega) (.inr (by omega))
       · refine ⟨fun e he => by obtain ⟨z, _, rfl⟩ := List.mem_map.1 he; rfl, .inr ⟨H.n, 0, none, true, (zs.take len).map fun z => V.int .i64 z, ?_, get_push_same _ _, ?_, fun m hm => by cases hm⟩⟩
         · rw [List.length_map, List.length_take, Nat.min_eq_left hlen]
         · rw [hfl]
           have : ((zs.take len).map fun z => [V.int .i64 z]).length * 1 = ((zs.take len).map fun z => V.int .i64 z).length := by simp
           rw [this, take?, List.drop_zero, List.take_length, Nat.beq_refl]; rfl
   · cases hsh
theorem law_walk (hmix : P.follows .mixedOrders = true) (hT : TabOk P T) (hP : PrimOk P T) {f : FuncId} (hpf : T.prim f = none) (h : Laid μ H w) {as : List V} {us : List Value} (hr : RVL μ as us)
  (hc : CallsTo T f as H fun r _ => r = .bool true) : Calls P f ⟨us⟩ w fun e w' => e = .returned (.bool true) ∧ RowKit.Below w.heap.size w w' := by
 obtain ⟨n, v, H', hrun, rfl⟩ := hc
 have := run_ok (w := w) hmix hT hP hpf (by rw [hrun]; simp) h.sim hr
 refine this.mono fun e w' hc => ?_
 rw [hrun] at hc
 cases e with
 | panicked ch => exact hc.elim
 | outgrown => exact hc.elim
 | returned u =>
   obtain ⟨μ', hv, hp⟩ := hc
   cases hv
   refine ⟨rfl, hp.os, hp.tape, hp.output, hp.size, fun b hb => hp.kept b hb ?_⟩
   rintro ⟨l, o, x, y, e, ho, _⟩
   rw [h.quiet l o e] at ho; cases ho
end Go.Am

/- Functions of which a contract stands in the library's shelf: sorting, striking out doubles. No conditions. -/
namespace Go.Am
open Go Go.Sort
def ints? : List V → Option (List Int)
 | [] => some []
 | .int .i64 n :: vs => (ints? vs).map (n :: ·)
 | _ => none
noncomputable def sortP : List V → Heap → Option (V × Heap)
 | [.nilSlice], H => some (.tuple [], H)
 | [.slice l o n s c], H => match H.get l with
   | some (.cells false vs) => match take? vs o (n * s) with
     | some cs => match ints? cs with
       | some zs => cond (Nat.beq s 1 && Nat.ble n 1000000000) (some (.tuple [], H.put l (.cells false (over vs o ((zs.mergeSort fun x y => decide (x ≤ y)).map fun z => V.int .i64 z))))) none
       | none => none
     | none => none
   | _ => none
 | _, _ => none
def dd : List Int → List Int
 | [] => []
 | [x] => [x]
 | x :: y :: l => if x = y then dd (y :: l) else x :: dd (y :: l)
noncomputable def compactP : List V → Heap → Option (V × Heap)
 | [.nilSlice], H => some (.nilSlice, H)
 | [.slice l o n s c], H => cond (Nat.beq n 0) (some (.slice l o n s c, H)) (match H.get l with
   | some (.cells false vs) => match take? vs o (n * s) with
     | some cs => match ints? cs with
       | some zs => cond (Nat.beq s 1 && Nat.ble n 1000000000) (some (.slice l o (dd zs).length s c, H.put l (.cells false (over vs o ((dd zs ++ List.replicate (n - (dd zs).length) 0).map fun z => V.int .i64 z))))) none
       | none => none
     | none => none
   | _ => none)
 | _, _ => none
variable {P : Program} {T : Tab} {μ : Mu} {H : Heap} {w w' : World}
theorem ints?_eq : ∀ {cs : List V} {zs : List Int}, ints? cs = some zs → cs = zs.map fun z => V.int .i64 z
 | [], zs, h => by simp only [ints?, Option.some.injEq] at h; subst h; rfl
 | .int .i64 n :: vs, zs, h => by
   simp only [ints?, Option.map_eq_some_iff] at h
   obtain ⟨ys, h1, rfl⟩ := h
   rw [ints?_eq h1]; rfl
 | v :: vs, zs, h => by
   unfold ints? at h
   split at h
   · rename_i e; cases e
   · rename_i n vs' e; cases e
     simp only [Option.map_eq_some_iff] at h
     obtain ⟨ys, h1, rfl⟩ := h
     rw [ints?_eq h1]; rfl
   · cases h
theorem tk_len {vs r : List V} {o n : Nat} (h : take? vs o n = some r) : r.length = n := by
 unfold take? at h
 simp only at h
 cases hh : Nat.beq ((vs.drop o).take n).length n with
 | false => rw [hh] at h; cases h
 | true =>
   rw [hh] at h
   simp only [cond_true, Option.some.injEq] at h
   rw [← h]; exact Nat.eq_of_beq_eq_true hh
theorem dd_snoc (x : Int) : ∀ l : List Int, dd (l ++ [x]) = dd l ++ if l.getLast? = some x then [] else [x]
 | [] => rfl
 | [y] => by
   simp only [List.cons_append, List.nil_append, dd, List.getLast?_singleton, Option.some.injEq]
   split
   · rename_i h; subst h; simp
   · simp
 | y :: z :: l => by
   have ih := dd_snoc x (z :: l)
   simp only [List.cons_append] at ih ⊢
   simp only [dd, List.getLast?_cons_cons]
   split
   · exact ih
   · rw [ih]; rfl
theorem dd_le : ∀ l : List Int, (dd l).length ≤ l.length
 | [] => Nat.le_refl _
 | [x] => Nat.le_refl _
 | x :: y :: l => by
   have := dd_le (y :: l)
   simp only [dd]
   split <;> simp only [List.length_cons] at * <;> omega
theorem compact_eq (zs : List Int) : Lib.compact zs = dd zs := by
 have key : ∀ m, m ≤ zs.length → Lib.compactUpTo zs.toArray m = dd (zs.take m) := by
  intro m
  induction m with
  | zero => intro _; simp [Lib.compactUpTo, dd]
  | succ m ih =>
    intro hm
    have hg : zs.toArray[m]! = zs[m] := by rw [getElem!_pos _ m (by simpa using Nat.lt_of_succ_le hm)]; rfl
    rw [Lib.compactUpTo_succ, ih (by omega), List.take_add_one, List.getElem?_eq_getElem (by omega), Option.toList_some, dd_snoc, hg]
    congr 1
    by_cases h0 : m = 0
    · subst h0; simp [Lib.keeps]
    · have hg1 : zs.toArray[m - 1]! = zs[m - 1] := by rw [getElem!_pos _ (m - 1) (by simp; omega)]; rfl
      have hl : (zs.take m).getLast? = some zs[m - 1] := by
       rw [List.getLast?_eq_getElem?, List.length_take, Nat.min_eq_left (by omega), List.getElem?_take_of_lt (by omega), List.getElem?_eq_getElem (by omega)]
      rw [hl]
      simp only [Lib.keeps, hg, hg1, h0, false_or, Option.some.injEq, ne_eq, decide_not, Bool.not_eq_true', decide_eq_false_iff_not]
      by_cases e : zs[m] = zs[m - 1]
      · rw [if_neg (by simpa using e), if_pos e.symm]
      · rw [if_pos (by simpa using e), if_neg (fun h => e h.symm)]
 rw [Lib.compact, key _ (Nat.le_refl _), List.take_length]
theorem Post.turnRow (h : Sim μ H w) {l b base tot : Nat} {vs vs' : List V} (hl : H.get l = some (.cells false vs)) (hm : μ l = some (b, base, tot)) (hos : w'.os = w.os) (ht : w'.tape = w.tape) (hout : w'.output = w.output)
  (hs : w.heap.size ≤ w'.heap.size) (hk : ∀ k, k < w.heap.size → k ≠ b → w'.heap[k]? = w.heap[k]?) {cs : Array Value} {ty : TypeId} {fr : Nat × Nat} (hb : w'.heap[b]? = some (.cells cs ty fr)) (hc : CellsR μ false vs' base tot cs fr) :
  Post μ H w μ (H.put l (.cells false vs')) w' := by
 obtain ⟨b', base', tot', cs0, ty0, fr0, m', hb0, hc0⟩ := h.obj l _ hl
 rw [hm] at m'; cases m'
 have hlt : b < w.heap.size := by
  rcases Nat.lt_or_ge b w.heap.size with h' | h'
  · exact h'
  · rw [Array.getElem?_eq_none h'] at hb0; cases hb0
 have p1 : Post μ H w μ (H.put l (.cells false vs')) (w.putObj b (.cells cs ty fr)) := Post.turn h hl rfl hm _ ⟨b, base, tot, cs, ty, fr, hm, World.putObj_heap_same hlt, hc⟩
 refine p1.trans (Post.below p1.sim ⟨hos, ht, hout, by simpa using hs, fun k hk' => ?_⟩)
 rw [World.putObj_size] at hk'
 by_cases e : k = b
 · subst e; rw [World.putObj_heap_same hlt, hb]
 · rw [World.putObj_heap_other e, hk k hk' e]
theorem over_none : ∀ (vs : List V) (o : Nat), over vs o [] = vs
 | vs, 0 => by cases vs <;> rfl
 | [], o + 1 => rfl
 | v :: vs, o + 1 => by rw [over, over_none vs o]
structure RowAt (μ : Mu) (H : Heap) (w : World) (l o b base tot : Nat) (vs : List V) (zs : List Int) : Prop where
 obj : H.get l = some (.cells false vs)
 place : μ l = some (b, base, tot)
 lt : b < w.heap.size
 fits : o + zs.length ≤ vs.length
 holds : Holds (Value.int .i64) w b (base + o) zs.toArray
theorem RowAt.of (h : Sim μ H w) {l o b base tot : Nat} {vs : List V} {zs : List Int} (hl : H.get l = some (.cells false vs)) (hm : μ l = some (b, base, tot)) (ht : take? vs o zs.length = some (zs.map fun z => V.int .i64 z)) (hz : 0 < zs.length) :
  RowAt μ H w l o b base tot vs zs := by
 obtain ⟨b', base', tot', cs, ty, fr, m', hb, hc⟩ := h.obj l _ hl
 rw [hm] at m'; cases m'
 have hlt : b < w.heap.size := by
  rcases Nat.lt_or_ge b w.heap.size with h' | h'
  · exact h'
  · rw [Array.getElem?_eq_none h'] at hb; cases hb
 unfold take? at ht
 simp only at ht
 cases hh : Nat.beq ((vs.drop o).take zs.length).length zs.length with
 | false => rw [hh] at ht; cases ht
 | true =>
   rw [hh] at ht
   simp only [cond_true, Option.some.injEq] at ht
   have := Nat.eq_of_beq_eq_true hh
   rw [List.length_take, List.length_drop] at this
   have hol : o + zs.length ≤ vs.length := by omega
   refine ⟨hl, hm, hlt, hol, fun j hj => ?_⟩
   have hj' : j < zs.length := by simpa using hj
   have hv : vs[o + j]? = some (.int .i64 zs[j]) := by
    have := congrArg (fun l : List V => l[j]?) ht
    simp only [List.getElem?_map, List.getElem?_eq_getElem hj', Option.map_some] at this
    rw [List.getElem?_take_of_lt hj', List.getElem?_drop] at this
    exact this
   obtain ⟨u, hu, hr⟩ := hc.cell _ _ hv
   cases hr
   have hroom := hc.room
   have hlen := hc.len
   have hg : zs.toArray[j]! = zs[j] := by rw [getElem!_pos _ j hj]; rfl
   constructor
   · simp only [World.cell?, hb, hg, Nat.add_assoc]
     simpa using hu
   · simp only [World.frozen?, hb]
     have := hc.thaw rfl (j := base + o + j) (by omega)
     simpa using this
theorem RowAt.turned (h : Sim μ H w) {l o b base tot : Nat} {vs : List V} {zs ys : List Int} (r : RowAt μ H w l o b base tot vs zs) (hy : ys.length = zs.length) (q : Nat) (os : Array Obj) :
  Post μ H w μ (H.put l (.cells false (over vs o (ys.map fun z => V.int .i64 z)))) (grow (putRow (Value.int .i64) (Sort.ahead w q) b (base + o) ys.toArray) os) := by
 obtain ⟨b', base', tot', cs, ty, fr, m', hb, hc⟩ := h.obj l _ r.obj
 rw [r.place] at m'; cases m'
 have hlt := r.lt
 have hsz : (putRow (Value.int .i64) (Sort.ahead w q) b (base + o) ys.toArray).heap.size = w.heap.size := by simp
 have hkeep : ∀ k, k < w.heap.size → (grow (putRow (Value.int .i64) (Sort.ahead w q) b (base + o) ys.toArray) os).heap[k]? = (putRow (Value.int .i64) (Sort.ahead w q) b (base + o) ys.toArray).heap[k]? := by
  intro k hk
  show (_ ++ os)[k]? = _
  rw [Array.getElem?_append_left (by rw [hsz]; exact hk)]
 have hfit := r.fits
 have hlen := hc.len
 have hroom := hc.room
 refine Post.turnRow h r.obj r.place rfl rfl rfl ?_ ?_ (cs := Sort.putCells (Value.int .i64) (base + o) ys.toArray cs) (ty := ty) (fr := fr) ?_ ⟨by rw [over_length]; exact hlen, by simpa [Sort.putCells] using hroom, ?_, ?_⟩
 · show _ ≤ (_ ++ os).size
   rw [Array.size_append, hsz]; omega
 · intro k hk hkb
   rw [hkeep k hk]
   simp only [putRow, mapBlock, Sort.heap_ahead]
   rw [Array.getElem?_modify, if_neg (fun e => hkb e.symm)]
 · rw [hkeep b hlt]
   simp only [putRow, mapBlock, Sort.heap_ahead]
   rw [Array.getElem?_modify, if_pos rfl, hb]
   rfl
 · intro j v hj
   rw [over_get _ _ _ _ (by simp; omega)] at hj
   simp only [List.length_map, hy] at hj
   have hjl : j < vs.length ∨ vs.length ≤ j := Nat.lt_or_ge _ _
   split at hj
   · rename_i hin
     rw [List.getElem?_map, Option.map_eq_some_iff] at hj
     obtain ⟨z, hz, rfl⟩ := hj
     refine ⟨.int .i64 z, ?_, .int _ _⟩
     have hyl : j - o < ys.length := by omega
     have hzz : ys[j - o] = z := by rw [List.getElem?_eq_getElem hyl] at hz; exact Option.some.inj hz
     have hg : ys.toArray[j - o]! = z := by rw [getElem!_pos _ (j - o) (by simpa using hyl)]; exact hzz
     simp only [Sort.putCells, Array.getElem?_mapIdx]
     rw [Array.getElem?_eq_getElem (by omega), Option.map_some]
     rw [if_pos (by simp; omega), show base + j - (base + o) = j - o by omega, hg]
   · rename_i hout
     obtain ⟨u, hu, hr⟩ := hc.cell j v hj
     refine ⟨u, ?_, hr⟩
     simp only [Sort.putCells, Array.getElem?_mapIdx, hu, Option.map_some]
     rw [if_neg (by simp; omega)]
 · intro e
   have := hc.free e
   simpa [Sort.putCells] using this
theorem sort_prim (hT : TabOk P T) {f : FuncId} {fn : Func} {c : Code} (hf : T.func f = some fn) (hb : fn.body = some c)
  (h1 : ∀ (blk off cap : Nat) (zs : List Int) (w : World), Holds (Value.int .i64) w blk off zs.toArray → blk < w.heap.size → zs.length < 4611686018427387904 →
   Calls P f #[.slice (some ⟨blk, off, none⟩) zs.length cap] w fun e w' => e = .returned (.tuple #[]) ∧ ∃ n os, w' = grow (putRow (Value.int .i64) (Sort.ahead w n) blk off (zs.mergeSort fun x y => decide (x ≤ y)).toArray) os)
  (h2 : ∀ (p : Option Addr) (cap : Nat) (w : World), Calls P f #[.slice p 0 cap] w fun e w' => e = .returned (.tuple #[]) ∧ w' = w)
  {as : List V} {v : V} {H' : Heap} (e : sortP as H = some (v, H')) {us : List Value} (h : Sim μ H w) (hr : RVL μ as us) : Entered P μ H w f us (.returned v H') := by
 have fin : ∀ {v : V} {H' : Heap}, Calls P f ⟨us⟩ w (CallPost μ H w (.returned v H')) → Entered P μ H w f us (.returned v H') := fun hc => .inl ⟨callsIn_wide.2 hc, run_callFunc hT hf hb ⟨us⟩⟩
 unfold sortP at e
 split at e
 · cases e
   cases hr with | cons h1' t => cases h1'; cases t
                                 exact fin ((h2 none 0 w).mono fun e w' ⟨he, hw⟩ => by subst he; subst hw; exact ⟨μ, .tuple .nil, Post.refl h⟩)
 · rename_i l o n s c'
   split at e
   · rename_i vs hl
     split at e
     · rename_i cs hcs
       split at e
       · rename_i zs hzs
         cases hs1 : (Nat.beq s 1 && Nat.ble n 1000000000) with
         | false => rw [hs1] at e; cases e
         | true =>
           rw [hs1] at e
           simp only [cond_true, Option.some.injEq, Prod.mk.injEq] at e
           obtain ⟨rfl, rfl⟩ := e
           rw [Bool.and_eq_true] at hs1
           have hs := Nat.eq_of_beq_eq_true hs1.1
           have hbn := Nat.le_of_ble_eq_true hs1.2
           subst hs
           have hcz := ints?_eq hzs
           subst hcz
           rw [Nat.mul_one] at hcs
           have hn : zs.length = n := by
            have := (tk_len hcs)
            simpa using this
           subst hn
           cases hr with | cons hs t => ?_
           cases t
           cases hs with | slice hm hnc hcc htt hoo => ?_
           rename_i b base tot cap off
           by_cases h0 : zs.length = 0
           · have hz : zs = [] := List.length_eq_zero_iff.1 h0
             subst hz
             refine fin ((h2 _ cap w).mono fun e w' ⟨he, hw⟩ => ?_)
             subst he; subst hw
             obtain ⟨b', base', tot', cs, ty, fr, m', hb', hc'⟩ := h.obj l _ hl
             rw [hm] at m'; cases m'
             refine ⟨μ, .tuple .nil, ?_⟩
             simp only [List.mergeSort_nil, List.map_nil, over_none]
             exact Post.turnRow h hl hm rfl rfl rfl (Nat.le_refl _) (fun _ _ _ => rfl) hb' hc'
           · have r := RowAt.of h hl hm hcs (by omega)
             have hoff : off = base + o := by omega
             subst hoff
             have hbig : zs.length < 4611686018427387904 := by omega
             refine fin ((h1 b (base + o) cap zs w r.holds r.lt hbig).mono fun e w' ⟨he, q, os, hw⟩ => ?_)
             subst he; subst hw
             exact ⟨μ, .tuple .nil, r.turned h (List.length_mergeSort _) q os⟩
       · cases e
     · cases e
   · cases e
 · cases e
theorem compact_prim (hT : TabOk P T) {f : FuncId} {fn : Func} {c : Code} (hf : T.func f = some fn) (hb : fn.body = some c)
  (h1 : ∀ (blk off cap : Nat) (zs : List Int) (w : World), Holds (Value.int .i64) w blk off zs.toArray → zs.length ≤ 9223372036854775807 → zs.length ≤ cap →
   Calls P f #[.slice (some ⟨blk, off, none⟩) zs.length cap] w fun e w' => e = .returned (.slice (some ⟨blk, off, none⟩) (Lib.compact zs).length cap) ∧ ∃ q, w' = putRow (Value.int .i64) (Sort.ahead w q) blk off (Lib.compact zs ++ List.replicate (zs.length - (Lib.compact zs).length) 0).toArray)
  (h2 : ∀ (a : Option Addr) (cap : Nat) (w : World), Calls P f #[.slice a 0 cap] w fun e w' => e = .returned (.slice a 0 cap) ∧ w' = w)
  {as : List V} {v : V} {H' : Heap} (e : compactP as H = some (v, H')) {us : List Value} (h : Sim μ H w) (hr : RVL μ as us) : Entered P μ H w f us (.returned v H') := by
 have fin : ∀ {v : V} {H' : Heap}, Calls P f ⟨us⟩ w (CallPost μ H w (.returned v H')) → Entered P μ H w f us (.returned v H') := fun hc => .inl ⟨callsIn_wide.2 hc, run_callFunc hT hf hb ⟨us⟩⟩
 unfold compactP at e
 split at e
 · cases e
   cases hr with | cons h1' t => cases h1'; cases t
                                 exact fin ((h2 none 0 w).mono fun e w' ⟨he, hw⟩ => by subst he; subst hw; exact ⟨μ, .nilSlice, Post.refl h⟩)
 · rename_i l o n s c'
   cases hn0 : Nat.beq n 0 with
   | true =>
     rw [hn0] at e
     simp only [cond_true, Option.some.injEq, Prod.mk.injEq] at e
     obtain ⟨rfl, rfl⟩ := e
     have hn := Nat.eq_of_beq_eq_true hn0
     subst hn
     cases hr with | cons hs t => ?_
     cases t
     cases hs with | slice hm hnc hcc htt hoo => ?_
     rename_i b base tot cap off
     refine fin ((h2 _ cap w).mono fun e w' ⟨he, hw⟩ => ?_)
     subst he; subst hw
     exact ⟨μ, .slice hm hnc hcc htt hoo, Post.refl h⟩
   | false =>
     rw [hn0] at e
     simp only [cond_false] at e
     have hnp : ¬ n = 0 := fun hh => by rw [hh] at hn0; cases hn0
     split at e
     · rename_i vs hl
       split at e
       · rename_i cs hcs
         split at e
         · rename_i zs hzs
           cases hs1 : (Nat.beq s 1 && Nat.ble n 1000000000) with
           | false => rw [hs1] at e; cases e
           | true =>
             rw [hs1] at e
             simp only [cond_true, Option.some.injEq, Prod.mk.injEq] at e
             obtain ⟨rfl, rfl⟩ := e
             rw [Bool.and_eq_true] at hs1
             have hs := Nat.eq_of_beq_eq_true hs1.1
             have hbn := Nat.le_of_ble_eq_true hs1.2
             subst hs
             have hcz := ints?_eq hzs
             subst hcz
             rw [Nat.mul_one] at hcs
             have hn : zs.length = n := by
              have := (tk_len hcs)
              simpa using this
             subst hn
             cases hr with | cons hs t => ?_
             cases t
             cases hs with | slice hm hnc hcc htt hoo => ?_
             rename_i b base tot cap off
             have r := RowAt.of h hl hm hcs (by omega)
             have hoff : off = base + o := by omega
             subst hoff
             have hle := dd_le zs
             refine fin ((h1 b (base + o) cap zs w r.holds (by omega) hnc).mono fun e w' ⟨he, q, hw⟩ => ?_)
             rw [compact_eq] at he hw
             subst he; subst hw
             refine ⟨μ, .slice hm (by omega) hcc htt hoo, ?_⟩
             have := r.turned h (ys := dd zs ++ List.replicate (zs.length - (dd zs).length) 0) (by simp; omega) q #[]
             rw [grow_empty] at this
             exact this
         · cases e
       · cases e
     · cases e
 · cases e
end Go.Am
